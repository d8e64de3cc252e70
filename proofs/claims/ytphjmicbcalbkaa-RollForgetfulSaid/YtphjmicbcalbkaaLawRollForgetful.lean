/- The law RollForgetful holds: whatever the input, the call returns true and leaves its arguments as they were. No condition. (The frame is the guide's template; the walk is in YtphjmicbcalbkaaRollU.) -/
import Derived.Test.YtphjmicbcalbkaaRows
import Derived.Test.YtphjmicbcalbkaaRollU
import Derived.WalkKit
import Derived.ProofKit
import Derived.OpenShut
import Derived.ShutString
import Derived.ChangeOld
import Derived.Below
import Derived.SizedLaws
import Derived.Test.YtphjmicbcalbkaaOpn
namespace Go.Proofs.Ytphjmicbcalbkaa.rollForgetful
open Go.ChangeShapes Go.WideShapes Go.ChangeAt Go.RowKit
open Go.ChangeMaps (open_string shut_string)
set_option linter.unusedVariables false

theorem own : ownKnob Try.prog.godebug = none := by kernel_rfl
theorem laidOut : laidOutB Try.prog = true := by kernel_rfl
set_option maxRecDepth 100000 in
theorem lifted (os : Os) (started : os.Started) (H : Type) (enc : TypeId × Value → H) :
    ReturnsInHanded {} Try.checked os 6 .any (Rows.rollForgetfulSpec.pre6 enc Try.prog Try.f6 Rows.rollForgetfulRow.domain false) (Rows.rollForgetfulSpec.post enc Try.prog Try.f6 false true false false) := by
  refine returnsInHanded_of_change (C := Try.checked) own started (by kernel_rfl) Try.func6
    (ChangeSpec.witness6 (enc := enc) (C := Try.checked) false ⟨#[], #[.agg #[.int .u64 0, .slice none 0 0, .slice none 0 0, .slice none 0 0]], []⟩ 8 (by kernel_rfl) (by kernel_rfl) (by kernel_rfl) (by kernel_rfl)) ?_
  intro W base args ds gs before hval0 hW hcnd _
  have hval : ∀ (j : Nat) t v, Try.f6.params[j]? = some t → args[j]? = some v → Value.okWide Try.prog W .any base t v := hval0
  have hW' := hW
  obtain ⟨p, q, hA0, hV, rfl, hfz, hnd⟩ := hW
  have hA : DataW.TrodAll enc Try.prog W 0 (fun _ => true) true Try.f6.params.toList args.toList ds p := hA0
  rw [Try.params6] at hA hval
  obtain ⟨v0, vs0, d0, ds0, p0, q0, hargs, rfl, rfl, h0, r0⟩ := trodAll_cons hA
  obtain ⟨rfl, rfl, rfl⟩ := trodAll_nil r0
  obtain rfl : args = #[v0] := by cases args; simp_all
  obtain ⟨rfl, rfl⟩ := trodVars_none hV
  have k0 := h0
  have lt0 : ∀ x ∈ p0, x.block < W.heap.size := by obtain ⟨m, hm⟩ := k0; exact DataW.trod_lt m _ _ _ hm
  obtain ⟨v0_0, v0_1, v0_2, v0_3, y0_0, y0_1, y0_2, y0_3, m0, rfl, _, _, t0_0, t0_1, t0_2, t0_3⟩ := Joins.open_agg4 Try.underlying37 (by kernel_rfl) (by kernel_rfl) (hval 0 37 v0 rfl rfl) h0
  obtain ⟨a0_0, rfl, w0_0⟩ := int_of_trod Try.underlying22 t0_0
  obtain ⟨a0_1, n0_1, c0_1, z0_1, rfl, w0_1⟩ := row_of_trod Try.underlying23 Try.underlying5 (by kernel_rfl) t0_1
  obtain ⟨a0_2, n0_2, c0_2, z0_2, rfl, w0_2⟩ := row_of_trod Try.underlying23 Try.underlying5 (by kernel_rfl) t0_2
  obtain ⟨a0_3, n0_3, c0_3, z0_3, rfl, w0_3⟩ := row_of_trod Try.underlying23 Try.underlying5 (by kernel_rfl) t0_3
  clear hA0 hval0
  refine (rollForgetful_true a0_0 w0_0 a0_1 n0_1 c0_1 z0_1 a0_2 n0_2 c0_2 z0_2 a0_3 n0_3 c0_3 z0_3 W w0_1 w0_2 w0_3).mono fun e W' ⟨he, bel⟩ => ?_
  subst he
  exact ⟨_, rfl, _, _, _, [], _, [], hW', trodAll_mk1 (shut_bool Try.underlying4 _), (trodAll_cons_mk (Below.trod laidOut (by kernel_rfl) (of_decide_eq_true (by kernel_rfl)) k0 bel lt0) trodAll_mk0), rfl, bel.frame _, fun h => by cases h⟩

theorem over : Rows.rollForgetfulRow.holds Try.pinned (OpenSpec.ofChange Rows.rollForgetfulSpec) :=
  OpenClaim.holds_of_wide 6 Try.f6 rfl rfl rfl rfl rfl rfl rfl ⟨rfl, rfl, rfl, rfl, rfl⟩ rfl rfl rfl rfl rfl (by kernel_rfl) Try.func6 (by kernel_rfl)
    (of_decide_eq_true (by kernel_rfl)) (by unfold Func.isWrapper; first | (rw [if_pos (by decide +kernel)]; kernel_rfl) | (rw [if_neg (by decide +kernel)]; exact ⟨rfl, rfl⟩))
    (fun os started H enc _ => lifted os started H enc)
theorem proved : Rows.RollForgetfulSaid := over
end Go.Proofs.Ytphjmicbcalbkaa.rollForgetful

namespace Go.Proofs.Ytphjmicbcalbkaa
/-- The row, under a short name, for the claim. -/
theorem rollForgetful_holds : Rows.RollForgetfulSaid := rollForgetful.proved
#print axioms rollForgetful_holds
end Go.Proofs.Ytphjmicbcalbkaa
