/- Laws for one step of a region that draws its order; the runs of operations on structs as equations. The frame 'all but the blocks of S'. -/
import Derived.Test.YtffpaeljnfmmiaaSl
import Derived.Laws.MakeOwn
namespace Go.Proofs.Ytffpaeljnfmmiaa
set_option linter.unusedVariables false
set_option linter.unusedSimpArgs false
open Go.RowKit

section
variable {P : Program} {w : World} {ops : Array Oper} {rest : List Oper} {o : Oper} {a : Act}
theorem step_val {K : Act → World → Prop} {Q : Exit → Act → World → Prop} {E : Prop} {v : Value} {w' : World} (hgd : o.guard = none) (hrun : (execOp a.eval o).run P w = .ok (.value v) w') (h : K (a.put o.dst v) w') :
    if Region.wanted o (yielded ops a.tmps) = true then Oper.wp P o a w K Q else E := by
  have hw : Region.wanted o (yielded ops a.tmps) = true := by simp [Region.wanted, hgd]
  rw [if_pos hw]
  unfold Oper.wp
  rw [hrun]
  exact h
theorem step_unit {K : Act → World → Prop} {Q : Exit → Act → World → Prop} {E : Prop} {w' : World} (hgd : o.guard = none) (hrun : (execOp a.eval o).run P w = .ok .skip w') (h : K (a.put o.dst undef) w') :
    if Region.wanted o (yielded ops a.tmps) = true then Oper.wp P o a w K Q else E := by
  have hw : Region.wanted o (yielded ops a.tmps) = true := by simp [Region.wanted, hgd]
  rw [if_pos hw]
  unfold Oper.wp
  rw [hrun]
  exact h
theorem exec_load_agg (ty : TypeId) (x : Operand) (ho : o.op = .load ty x) (g off : Nat) (hx : a.eval x = .pointer (some ⟨g, off, none⟩))
    (d : TypeDesc) (hu : P.underlying ty = some d) (hd : (match d with | .struct _ | .array _ _ => true | _ => false) = true) (n : Nat) (hi : (P.info? ty).map (·.size) = some n)
    (f : Nat → Value) (hc : ∀ i, i < n → w.cell? ⟨g, off + i, none⟩ = some (f i)) : (execOp a.eval o).run P w = .ok (.value (.agg ((List.range n).map f).toArray)) w := by
  unfold execOp
  simp only [ho, hx, Instr.loadAt, Instr.sureAddr, Sem.run_bind, Sem.run_pure, Result.andThen_ok, run_loadVar_agg g off ty d hu hd n hi f hc]
theorem exec_build_struct (t : TypeId) (parts : Array (Nat × Operand)) (ho : o.op = .build t parts) (z : Value) (hz : (zeroValue t).run P w = .ok z w)
    (fields : Array Field) (hu : P.underlying t = some (.struct fields)) (places : Array (Nat × Nat)) (hp : (fields.mapM (fun f => (do pure (f.offset, ← sizeOf f.type) : Sem (Nat × Nat)))).run P w = .ok places w)
    (pl : List (Nat × Value)) (hpl : parts.toList.map (fun p => (p.1, a.eval p.2)) = pl) (cs : Array Value) (hfill : Instr.fill (fun i => places[i]?) z.cells pl = some cs) : (execOp a.eval o).run P w = .ok (.value (.agg cs)) w := by
  unfold execOp
  subst hpl
  have hfill' : Instr.fill (fun i => places[i]?) z.cells (parts.map fun (i, x) => (i, a.eval x)).toList = some cs := by rw [Array.toList_map]; exact hfill
  simp only [ho, Instr.build, Sem.run_bind, hz, Result.andThen_ok, run_underlying hu, hp, hfill']
  simp
theorem exec_box_row (t : TypeId) (x : Operand) (ho : o.op = .box t x) (cs : Array Value) (hx : a.eval x = .agg cs) : (execOp a.eval o).run P w = .ok (.value (.pointer (some ⟨w.heap.size, 0, none⟩))) (w.alloc (.cells cs t)) := by
  unfold execOp
  simp only [ho, hx, Instr.box, newVar, newRow, Value.cells, Sem.run_bind, Result.andThen_ok, Sem.run_pure, run_newObj_alloc]
theorem exec_make (t : TypeId) (l c : Operand) (ho : o.op = .makeSlice t l c) (e : TypeId) (i : TypeInfo) (z : Value) (ht : P.underlying t = some (.slice e)) (hi : P.info? e = some i) (hz : i.zero = some z) (hs : i.size = 1) (b : Nat) (hb : i.bytes = b) (hzc : z.cells = #[z])
    (k : IntKind) (n : Nat) (hl : a.eval l = .int k (n : Int)) (hc : a.eval c = .int k (n : Int)) (hbytes : b * n ≤ 281474976710656) (h63 : n ≤ 9223372036854775807) :
    (execOp a.eval o).run P w = .ok (.value (.slice (some ⟨w.heap.size, 0, none⟩) n n)) (w.alloc (.cells (List.replicate n z).toArray e)) := by
  have h := run_make (P := P) w t e i z ht hi hz k k n n (by omega) (by omega) (by rw [hb, ← Int.natCast_mul]; omega) (by omega)
  have e2 : madeCells z.cells ((n : Int).toNat * i.size) = (List.replicate n z).toArray := by
    rw [hs, hzc]
    apply Array.ext
    · simp [madeCells]
    · intro i h1 h2
      simp [madeCells, Nat.mod_one]
  rw [e2] at h
  unfold execOp
  simp only [ho, hl, hc, Sem.run_bind, h, Result.andThen_ok, Sem.run_pure, Int.toNat_natCast]
theorem exec_assign (x : Operand) (ho : o.op = .assign x) (v : Value) (hx : a.eval x = v) : (execOp a.eval o).run P w = .ok (.value v) w := by
  unfold execOp
  simp only [ho, hx, Sem.run_pure]
theorem rowIs_zeros (w : World) (n : Nat) (z : Value) (e : TypeId) : (w.alloc (.cells (List.replicate n z).toArray e)).rowIs w.heap.size e n (fun _ => z) := by
  have h := World.rowIs_alloc w (List.replicate n z).toArray e (fun _ => z) (fun i hi => by simp at hi; simp [hi])
  simpa using h
theorem AggIs.unique {v v' : Value} {n : Nat} {f : Nat → Value} (h : AggIs v n f) (h' : AggIs v' n f) : v = v' := by
  obtain ⟨cs, rfl, hs, hc⟩ := h
  obtain ⟨cs', rfl, hs', hc'⟩ := h'
  congr 1
  apply Array.ext (by omega)
  intro i h1 h2
  have e1 := hc i (by omega)
  have e2 := hc' i (by omega)
  rw [Array.getElem?_eq_getElem h1] at e1
  rw [Array.getElem?_eq_getElem h2] at e2
  injection e1 with e1
  injection e2 with e2
  rw [e1, e2]
end

/-- Cells that begin so, then are all alike, and end so. -/
def zRow2 (pre : List Value) (n : Nat) (z : Value) (post : List Value) : Array Value := (pre ++ (List.replicate n z ++ post)).toArray
theorem zRow2_size (pre : List Value) (n : Nat) (z : Value) (post : List Value) : (zRow2 pre n z post).size = pre.length + (n + post.length) := by
  unfold zRow2; rw [List.size_toArray, List.length_append, List.length_append, List.length_replicate]
theorem zRow2_get (pre : List Value) (n : Nat) (z : Value) (post : List Value) (i : Nat) (h : i < pre.length + (n + post.length)) :
    (zRow2 pre n z post)[i]? = some (if i < pre.length then pre.getD i z else if i < pre.length + n then z else post.getD (i - pre.length - n) z) := by
  unfold zRow2
  rw [List.getElem?_toArray]
  by_cases h2 : i < pre.length
  · rw [if_pos h2, List.getElem?_append_left h2, List.getD_eq_getElem?_getD, List.getElem?_eq_getElem h2]; rfl
  · rw [if_neg h2, List.getElem?_append_right (by omega)]
    by_cases h3 : i < pre.length + n
    · rw [if_pos h3, List.getElem?_append_left (by rw [List.length_replicate]; omega), List.getElem?_replicate, if_pos (by omega)]
    · rw [if_neg h3, List.getElem?_append_right (by rw [List.length_replicate]; omega), List.length_replicate, List.getD_eq_getElem?_getD, List.getElem?_eq_getElem (by omega)]; rfl

/-- All but the blocks of S is as it was. -/
structure Only (S : Nat → Prop) (w w' : World) : Prop where
  os : w'.os = w.os
  tape : w'.tape = w.tape
  output : w'.output = w.output
  size : w.heap.size ≤ w'.heap.size
  block : ∀ k, k < w.heap.size → ¬ S k → w'.heap[k]? = w.heap[k]?
section
variable {S : Nat → Prop} {w w' w0 w1 : World}
theorem Only.refl (S : Nat → Prop) (w : World) : Only S w w := ⟨rfl, rfl, rfl, Nat.le_refl _, fun _ _ _ => rfl⟩
theorem Only.trans (h : Only S w w') (k : Only S w' w1) : Only S w w1 :=
  ⟨k.os.trans h.os, k.tape.trans h.tape, k.output.trans h.output, Nat.le_trans h.size k.size, fun i hi hs => (k.block i (by have := h.size; omega) hs).trans (h.block i hi hs)⟩
theorem Only.of_q (h : Q w w') : Only S w w' := ⟨h.os, h.tape, h.output, h.size, fun k hk _ => h.block k hk⟩
theorem Only.step (h : Only S w w') (k : Q w' w1) : Only S w w1 := h.trans (Only.of_q k)
theorem Only.setCell (h : Only S w w') {p : Addr} (hp : S p.block) (v : Value) : Only S w (w'.setCell p v) :=
  h.trans ⟨rfl, rfl, rfl, by simp [World.setCell], fun k _ hs => Below.heap_setCell _ _ _ _ (fun e => hs (e ▸ hp))⟩
theorem Only.drew (h : Only S w w') : Only S w w'.drew := ⟨h.os, h.tape, h.output, h.size, h.block⟩
theorem Only.drewN (h : Only S w w') (n : Nat) : Only S w (w'.drewN n) := ⟨h.os, h.tape, h.output, h.size, h.block⟩
theorem Only.alloc (h : Only S w w') (o : Obj) : Only S w (w'.alloc o) := h.step ((Q.refl _).alloc o)
theorem Only.put {g : Nat} (h : Only S w w') (hp : Put g w' w1) (hg : S g) : Only S w w1 :=
  h.trans ⟨hp.os, hp.tape, hp.output, by rw [hp.size]; exact Nat.le_refl _, fun k _ hs => hp.block k (fun e => hs (e ▸ hg))⟩
theorem Only.mono {S' : Nat → Prop} (h : Only S w w') (hS : ∀ k, S k → S' k) : Only S' w w' := ⟨h.os, h.tape, h.output, h.size, fun k hk hs => h.block k hk (fun e => hs (hS k e))⟩
theorem Only.q (h : Only S w w') (hq : Q w0 w) (hS : ∀ k, S k → w0.heap.size ≤ k) : Q w0 w' :=
  Below.trans hq ⟨h.os, h.tape, h.output, h.size, fun k hk => h.block k (by have := hq.size; omega) (fun e => by have := hS k e; omega)⟩
theorem Only.row {k n : Nat} {t : TypeId} {f : Nat → Value} (h : Only S w w') (hr : w.rowIs k t n f) (hk : ¬ S k) : w'.rowIs k t n f := hr.of_block (h.block k hr.lt hk)
theorem Only.sees (h : Only S w w') {ok : Nat → Prop} {A : Option Addr} {xs : List Value} (hs : SeesP w ok A xs) (hok : ∀ b, ok b → b < w.heap.size ∧ ¬ S b) : SeesP w' ok A xs :=
  hs.keep fun p hp => World.cell?_of_block (w := w) (h.block p.block (hok _ hp).1 (hok _ hp).2)
theorem hrow_alloc {k n : Nat} {t : TypeId} {f : Nat → Value} {o : Obj} (h : Hid (w.rowIs k t n f)) : (w.alloc o).rowIs k t n f := (Ext.of_alloc _ _).row h.out
theorem hrow_q {k n : Nat} {t : TypeId} {f : Nat → Value} (h : Hid (w.rowIs k t n f)) (hq : Q w w') : w'.rowIs k t n f := row_q hq h.out
theorem honly_alloc {o : Obj} (h : Hid (Only S w w')) : Only S w (w'.alloc o) := h.out.alloc o
theorem honly_q (h : Hid (Only S w w')) (hq : Q w' w1) : Only S w w1 := h.out.step hq
end
end Go.Proofs.Ytffpaeljnfmmiaa
