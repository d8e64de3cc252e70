/- Two rings compared; the law's from. -/
import Derived.Test.YtcdbffgmgfblkaaDoorKeh
namespace Go.Proofs.YtcdbffgmgfblkaaDoor
set_option linter.unusedVariables false
set_option linter.unusedSimpArgs false
open Go.RowKit

theorem eqFields_same {P : Program} (d : Nat) (xs : Array Value) (w : World) : ∀ fs : List Field, (∀ f ∈ fs, ∃ a, (part f.type xs f.offset).run P w = .ok a w ∧ (Op.equalIn d f.type a a).run P w = .ok true w) → (Op.eqFields d xs xs fs).run P w = .ok true w
  | [], _ => by simp [Op.eqFields]
  | f :: fs, h => by
    obtain ⟨a, h1, h2⟩ := h f (by simp)
    have ih := eqFields_same d xs w fs (fun g hg => h g (by simp [hg]))
    by_cases hn : f.name = "_"
    · simp [Op.eqFields, hn, ih]
    · simp [Op.eqFields, hn, h1, h2, ih, Sem.run_bind]
theorem eq_same_d (d : Nat) (L : List Nat) (w : World) : (Op.equalIn (d + 2) 28 (.agg (arrO L)) (.agg (arrO L))).run Tryd.prog w = .ok true w := by
  obtain ⟨i8, hi8, hz80, hz81, hz82⟩ := info_parts info8
  have hc : Tryd.prog.cellsOf 5 = 1 := by kernel_rfl
  have h1 := run_equalIn_array w (d + 1) (arrO L) (arrO L) Tryd.underlying28 hi8
  have h2 := eqItems_bytes L L d w (List.range 32) (fun i hi => List.mem_range.1 hi)
  rw [hc] at h1
  refine (h1.trans h2).trans (congrArg (fun b => Result.ok b w) ?_)
  rw [List.all_eq_true]
  intro i _
  exact beq_self_eq_true _
theorem eq_keys (d : Nat) (h m : List Nat) (w : World) : (Op.equalIn (d + 3) 50 (.agg (arrO h ++ arrO m)) (.agg (arrO h ++ arrO m))).run Tryd.prog w = .ok true w := by
  refine (run_equalIn_struct w (d + 2) 50 _ _ (by kernel_rfl) (by kernel_rfl)).trans (eqFields_same (d + 2) _ w _ ?_)
  have hfs : (Tryd.prog.fieldsOf 50).toList = [{ name := "Hide", type := 28, offset := 0, embedded := false, tag := "", pkgPath := "", byteOffset := 0 }, { name := "Mark", type := 28, offset := 32, embedded := false, tag := "", pkgPath := "", byteOffset := 32 }] := by kernel_rfl
  rw [hfs]
  intro f hf
  simp only [List.mem_cons, List.not_mem_nil, or_false] at hf
  rcases hf with rfl | rfl
  · exact ⟨.agg (arrO h), by kernel_rfl, eq_same_d d h w⟩
  · exact ⟨.agg (arrO m), by kernel_rfl, eq_same_d d m w⟩
theorem eq_ring (h m n : List Nat) (w : World) : (Op.equalIn 10000 52 (.agg (ringC h m n)) (.agg (ringC h m n))).run Tryd.prog w = .ok true w := by
  refine (run_equalIn_struct w 9999 52 _ _ (by kernel_rfl) (by kernel_rfl)).trans (eqFields_same 9999 _ w _ ?_)
  have hfs : (Tryd.prog.fieldsOf 52).toList = [{ name := "Keys", type := 50, offset := 0, embedded := false, tag := "", pkgPath := "", byteOffset := 0 }, { name := "Name", type := 28, offset := 64, embedded := false, tag := "", pkgPath := "", byteOffset := 64 }] := by kernel_rfl
  rw [hfs]
  intro f hf
  simp only [List.mem_cons, List.not_mem_nil, or_false] at hf
  rcases hf with rfl | rfl
  · exact ⟨.agg (arrO h ++ arrO m), by kernel_rfl, eq_keys 9996 h m w⟩
  · exact ⟨.agg (arrO n), by kernel_rfl, eq_same_d 9997 n w⟩
theorem run_eq_ring (op : Oper) (h m n : List Nat) (ρ : Operand → Value) (x y : Operand) (t : TypeId) (ho : op.op = .binOp .eql 52 x y t) (hx : ρ x = .agg (ringC h m n)) (hy : ρ y = .agg (ringC h m n)) (w : World) : (execOp ρ op).run Tryd.prog w = .ok (.value (.bool true)) w := by
  have h1 : (eqGuard .eql 52 x y (.agg (ringC h m n)) (.agg (ringC h m n))).run Tryd.prog w = .ok () w := run_eqGuard_agg w .eql 52 x y (ringC h m n) (ringC h m n) (by kernel_rfl)
  have h2 : (binOp .eql 52 (.agg (ringC h m n)) (.agg (ringC h m n))).run Tryd.prog w = .ok (.bool true) w := by
    rw [run_eql_struct, eq_ring h m n w]; rfl
  unfold execOp
  simp only [ho, hx, hy, Sem.run_bind, h1, Result.andThen_ok, h2, Sem.run_pure]

set_option maxHeartbeats 8000000 in
set_option maxRecDepth 100000 in
theorem from_ok (h m n : List Nat) (w : World) : Calls Tryd.prog 30 #[.agg (ringC h m n)] w fun e w' => e = .returned (.agg (ringC h m n)) ∧ Hid (Q w w') := by
  go_enter Tryd.func30, Tryd.ntmps30
  go_wp2_with (first
    | (refine gate 1 rfl ?_; refine wpList_box_row rfl 46 (.tmp 0) rfl _ rfl 96 _ (ring_agg h m n) ?_; intro w1 hr1 hx1; have HQ1 : Hid (Q w w1) := hx1.q (Q.refl _); have HC := Lib.hid (And.intro hr1 trivial); clear hr1 hx1)
    | (refine gate 2 rfl ?_; go_loud (refine wpList_alloc_row rfl 52 rfl _ (zeroR2 _) 96 (ringF Z32 Z32 Z32) (ringC_size _ _ _) (ringC_get _ _ _) ?_; intro w2 hr2 hx2; have H2 := Lib.hid (And.intro hr2 (hx2.q (Q.refl _))); have HC2 := Lib.hid (ring_cells (hx2.row HC.out.1)); clear hr2 hx2))
    | (refine gate 5 rfl ?_; refine wpList_run_u rfl (load_part 0 (.tmp 4) rfl rfl HC2.out.1) ?_)
    | (refine gate 8 rfl ?_; refine wpList_run_u rfl (load_part 32 (.tmp 7) rfl rfl HC2.out.2.1) ?_)
    | (refine gate 9 rfl ?_; go_loud (refine wpList_build_struct rfl 50 _ rfl _ (zeroK2 _) _ Tryd.underlying50 _ (placesKeys2 _ _ Tryd.underlying50) [(0, .agg (arrO h)), (1, .agg (arrO m))] rfl (arrO h ++ arrO m) (fillKeys h m) ?_))
    | (refine gate 11 rfl ?_; refine wpList_run_u rfl (load_part 64 (.tmp 10) rfl rfl HC2.out.2.2) ?_)
    | (refine gate 12 rfl ?_; go_loud (refine wpList_build_struct rfl 52 _ rfl _ (zeroR2 _) _ Tryd.underlying52 _ (placesRing2 _ _ Tryd.underlying52) [(0, .agg (arrO h ++ arrO m)), (1, .agg (arrO n))] rfl (ringC h m n) (fillRing h m n) ?_))
    | (refine wpList_store_all rfl 52 (.tmp 2) (.tmp 12) rfl w1.heap.size rfl _ rfl 96 info96d _ (ring_agg h m n) (fun i _ => ring_one _ _ _ i) 52 _ H2.out.1 ?_; intro w3 hr3 hp3; have H3 := Lib.hid (And.intro hr3 hp3); clear hr3 hp3))
  refine ret_cell rfl w1.heap.size rfl _ Tryd.underlying52 rfl 96 info96d (ringF h m n) (row_cells H3.out.1) rfl (fun v hv => ⟨by rw [AggIs.unique hv (ring_agg h m n)], ?_⟩)
  exact H3.out.2.q (HQ1.out.trans' H2.out.2) HQ1.out.size
end Go.Proofs.YtcdbffgmgfblkaaDoor
