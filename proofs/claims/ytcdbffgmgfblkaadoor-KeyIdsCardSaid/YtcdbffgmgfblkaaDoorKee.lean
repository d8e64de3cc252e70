/- The document's arrays of a text. -/
import Derived.Test.YtcdbffgmgfblkaaDoorKed
import Derived.Lib.BufferWrite
namespace Go.Proofs.YtcdbffgmgfblkaaDoor
set_option linter.unusedVariables false
set_option linter.unusedSimpArgs false
open Go.RowKit

section
variable {P : Program} {w : World} {ops : Array Oper} {rest : List Oper} {o : Oper} {a : Act} {K : Exit → Act → World → Prop}
/-- copy of a text into an array that it fills. -/
theorem wpList_copy_str (hgd : o.guard = none) (d s : Operand) (dT sT : TypeId) (ho : o.op = .call { callee := .builtin .copy, args := #[d, s], argTypes := #[dT, sT] }) (elem : TypeId) (hu : P.underlying dT = some (.slice elem)) (hsz : (P.info? elem).map (·.size) = some 1)
    (g N : Nat) (hd : a.eval d = .slice (some ⟨g, 0, none⟩) N N) (L : List Nat) (hb : ∀ x ∈ L, x ≤ 255) (hl : L.length = N) (hs : a.eval s = .string (strB L)) (t : TypeId) (f : Nat → Value) (hr : w.rowIs g t N f)
    (h : ∀ w', w'.rowIs g t N (arrF L) → Put g w w' → wpList P ops K rest (a.put o.dst (goInt N)) w') : wpList P ops K (o :: rest) a w := by
  obtain ⟨cur, hh, hcs, hcc⟩ := hr
  have hsize : (strB L).size = N := by rw [strB_size, hl]
  have e := Lib.run_copy_row_string (P := P) w dT sT o.type elem g 0 N N (strB L) cur t hu hsz hh (by omega) (by omega)
  rw [hsize] at e
  refine wpList_plain hgd fun K' hK => ?_
  unfold Oper.wp execOp
  simp only [ho, resolve, invoke, builtin, Sem.run_bind, Sem.run_pure, Result.andThen_ok, List.map_toArray, List.map_cons, List.map_nil, hd, hs, e]
  refine hK _ _ (h _ ⟨_, setRow_heap w g cur _ t (0, 0) hh, ?_, fun i hi => ?_⟩ (Put.of_setRow _ _ _))
  · simp [hcs, Lib.byteCells, strB, hl]
  · have hil : i < L.length := by omega
    rw [List.getElem?_toArray, List.take_zero, List.nil_append, List.getElem?_append_left (by simp [Lib.byteCells, strB]; exact hil)]
    have hx := hb _ (List.getElem_mem hil)
    simp [Lib.byteCells, strB, hil, arrF, B8]
    omega
theorem wpList_run_u {v : Value} (hgd : o.guard = none) (hr : (execOp a.eval o).run P w = .ok (.value v) w) (hw : wpList P ops K rest (a.put o.dst v) w) : wpList P ops K (o :: rest) a w := wpList_val hgd hr hw
theorem wpList_run_gd {v : Value} (hwant : Region.wanted o (yielded ops a.tmps) = true) (hr : (execOp a.eval o).run P w = .ok (.value v) w) (hw : wpList P ops K rest (a.put o.dst v) w) : wpList P ops K (o :: rest) a w := by
  show (if Region.wanted o (yielded ops a.tmps) = true then _ else _)
  rw [if_pos hwant]
  refine .inl ?_
  unfold Oper.wp
  rw [hr]
  exact hw
theorem load_arr32 {w : World} {a : Act} {o : Oper} {g : Nat} {t : TypeId} {L : List Nat} (x : Operand) (ho : o.op = .load 28 x) (hx : a.eval x = .pointer (some ⟨g, 0, none⟩)) (hr : w.rowIs g t 32 (arrF L)) : (execOp a.eval o).run Tryd.prog w = .ok (.value (.agg (arrO L))) w :=
  exec_load_agg 28 x ho g 0 hx _ Tryd.underlying28 rfl 32 info32b (arrF L) (row_cells hr)
end

set_option maxHeartbeats 8000000 in
set_option maxRecDepth 100000 in
theorem refof_ok (L : List Nat) (hb : ∀ x ∈ L, x ≤ 255) (hl : L.length = 32) (w : World) : Calls Tryd.prog 44 #[.string (strB L)] w fun e w' => e = .returned (.agg (arrO L)) ∧ Hid (Q w w') := by
  have HB := Lib.hid hb
  have HL := Lib.hid hl
  clear hb hl
  go_enter Tryd.func44, Tryd.ntmps44
  go_wp2_with (first
    | (refine gate 2 rfl ?_; go_loud (refine wpList_alloc_row rfl 28 rfl _ (zero32 _) 32 _ rfl zer32_get ?_; intro w1 hr1 hx1; have H1 : Hid (w1.rowIs w.heap.size 28 32 (arrF []) ∧ Q w w1) := ⟨hr1, hx1.q (Q.refl _)⟩; clear hr1 hx1))
    | (refine gate 3 rfl ?_; go_loud (refine wpList_alloc_row rfl 28 rfl _ (zero32 _) 32 _ rfl zer32_get ?_; intro w2 hr2 hx2; have H2 := Lib.hid (And.intro hr2 hx2); clear hr2 hx2))
    | (refine gate 6 rfl ?_; go_loud (refine wpList_copy_str rfl (.tmp 4) (.tmp 5) 22 9 rfl 5 Tryd.underlying22 info8b w1.heap.size 32 rfl L HB.out HL.out rfl 28 _ H2.out.1 ?_; intro w3 hr3 hp3; have H3 : Hid (w3.rowIs w1.heap.size 28 32 (arrF L) ∧ Q w1 w3) := ⟨hr3, hp3.q (H2.out.2.q (Q.refl _)) (Nat.le_refl _)⟩; clear hr3 hp3))
    | (refine gate 7 rfl ?_; refine wpList_run_u rfl (load_arr32 (.tmp 3) rfl rfl H3.out.1) ?_)
    | (refine wpList_store_all rfl 28 (.tmp 2) (.tmp 7) rfl w.heap.size rfl _ rfl 32 info32b _ (arrO_agg L) (fun i _ => rfl) 28 _ (row_q H3.out.2 H1.out.1) ?_; intro w4 hr4 hp4; have H4 := Lib.hid (And.intro hr4 hp4); clear hr4 hp4))
  refine ret_cell rfl w.heap.size rfl _ Tryd.underlying28 rfl 32 info32b _ (row_cells H4.out.1) rfl (fun v hv => ⟨by rw [arrO_eq hv], ?_⟩)
  exact H4.out.2.q (H1.out.2.trans' H3.out.2) (Nat.le_refl _)
end Go.Proofs.YtcdbffgmgfblkaaDoor
