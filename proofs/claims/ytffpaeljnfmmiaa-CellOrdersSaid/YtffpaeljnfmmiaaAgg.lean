/- Words and laws for structs and arrays of many cells, told by the index: a value that is such, a row of cells that is allocated, loaded, stored or built as a whole. -/
import Derived.Test.YtffpaeljnfmmiaaMem
import Derived.Laws.CopyRow
import Derived.Laws.Rows
namespace Go.Proofs.Ytffpaeljnfmmiaa
set_option linter.unusedVariables false
set_option linter.unusedSimpArgs false
open Go.RowKit

/-- A struct's or an array's value: n cells, cell i is f i. -/
def AggIs (v : Value) (n : Nat) (f : Nat → Value) : Prop := ∃ cs : Array Value, v = .agg cs ∧ cs.size = n ∧ ∀ i, i < n → cs[i]? = some (f i)
theorem AggIs.congr {v : Value} {n : Nat} {f g : Nat → Value} (h : AggIs v n f) (hfg : ∀ i, i < n → f i = g i) : AggIs v n g := by
  obtain ⟨cs, e, hs, hc⟩ := h
  exact ⟨cs, e, hs, fun i hi => by rw [hc i hi, hfg i hi]⟩

/-- Only block g is another one. -/
structure Put (g : Nat) (w w' : World) : Prop where
  os : w'.os = w.os
  tape : w'.tape = w.tape
  output : w'.output = w.output
  size : w'.heap.size = w.heap.size
  block : ∀ k, k ≠ g → w'.heap[k]? = w.heap[k]?
theorem Put.below {w0 w w' : World} {g B : Nat} (h : Put g w w') (hb : Below B w0 w) (hg : B ≤ g) : Below B w0 w' :=
  hb.trans ⟨h.os, h.tape, h.output, by rw [h.size]; exact Nat.le_refl _, fun k hk => h.block k (by omega)⟩
theorem Put.q {w0 w w' : World} {g : Nat} (h : Put g w w') (hq : Q w0 w) (hg : w0.heap.size ≤ g) : Q w0 w' := h.below hq hg
theorem Put.row {w w' : World} {g k n : Nat} {t : TypeId} {f : Nat → Value} (h : Put g w w') (hr : w.rowIs k t n f) (hk : k ≠ g) : w'.rowIs k t n f := hr.of_block (h.block k hk)
theorem Put.sees {w w' : World} {g : Nat} {ok : Nat → Prop} {A : Option Addr} {xs : List Value} (h : Put g w w') (hs : SeesP w ok A xs) (hok : ¬ ok g) : SeesP w' ok A xs :=
  hs.keep fun p hp => World.cell?_of_block (w := w) (h.block p.block (fun e => hok (e ▸ hp)))
theorem Put.of_setCell (w : World) (p : Addr) (v : Value) : Put p.block w (w.setCell p v) := ⟨rfl, rfl, rfl, by simp [World.setCell], fun k hk => Below.heap_setCell _ _ _ _ hk⟩
theorem Put.of_setRow (w : World) (g : Nat) (cs : Array Value) : Put g w (w.setRow g cs) := ⟨rfl, rfl, rfl, by simp [World.setRow], fun k hk => setRow_other w g k cs hk⟩

/-- One block more, all others as they were. -/
structure Ext (w w' : World) : Prop where
  os : w'.os = w.os
  tape : w'.tape = w.tape
  output : w'.output = w.output
  size : w'.heap.size = w.heap.size + 1
  block : ∀ k, k < w.heap.size → w'.heap[k]? = w.heap[k]?
theorem Ext.of_alloc (w : World) (o : Obj) : Ext w (w.alloc o) := ⟨rfl, rfl, rfl, by simp, fun k hk => Below.heap_alloc w o k hk⟩
theorem Ext.below {w0 w w' : World} {B : Nat} (h : Ext w w') (hb : Below B w0 w) (hB : B ≤ w.heap.size) : Below B w0 w' :=
  hb.trans ⟨h.os, h.tape, h.output, by rw [h.size]; omega, fun k hk => h.block k (by omega)⟩
theorem Ext.q {w0 w w' : World} (h : Ext w w') (hq : Q w0 w) : Q w0 w' := h.below hq hq.size
theorem Ext.row {w w' : World} {k n : Nat} {t : TypeId} {f : Nat → Value} (h : Ext w w') (hr : w.rowIs k t n f) : w'.rowIs k t n f := hr.of_block (h.block k hr.lt)
theorem Ext.sees {w w' : World} {ok : Nat → Prop} {A : Option Addr} {xs : List Value} (h : Ext w w') (hs : SeesP w ok A xs) (hok : ∀ b, ok b → b < w.heap.size) : SeesP w' ok A xs :=
  hs.keep fun p hp => World.cell?_of_block (w := w) (h.block p.block (hok _ hp))
theorem row_below {w w' : World} {B k n : Nat} {t : TypeId} {f : Nat → Value} (hb : Below B w w') (hr : w.rowIs k t n f) (hk : k < B) : w'.rowIs k t n f := hr.of_block (hb.block k hk)
theorem row_q {w w' : World} {k n : Nat} {t : TypeId} {f : Nat → Value} (hq : Below w.heap.size w w') (hr : w.rowIs k t n f) : w'.rowIs k t n f := row_below hq hr hr.lt

section
variable {P : Program} {w : World} {ops : Array Oper} {rest : List Oper} {o : Oper} {a : Act} {K : Exit → Act → World → Prop}

theorem wpList_val {v : Value} {w' : World} (hgd : o.guard = none) (hrun : (execOp a.eval o).run P w = .ok (.value v) w') (h : wpList P ops K rest (a.put o.dst v) w') : wpList P ops K (o :: rest) a w := by
  refine wpList_plain hgd fun K' hK => ?_
  unfold Oper.wp
  rw [hrun]
  exact hK _ _ h
theorem wpList_unit {w' : World} (hgd : o.guard = none) (hrun : (execOp a.eval o).run P w = .ok .skip w') (h : wpList P ops K rest (a.put o.dst undef) w') : wpList P ops K (o :: rest) a w := by
  refine wpList_plain hgd fun K' hK => ?_
  unfold Oper.wp
  rw [hrun]
  exact hK _ _ h

/-- A new variable of type t. -/
theorem wpList_alloc_row (hgd : o.guard = none) (t : TypeId) (ho : o.op = .alloc t) (z : Value) (hz : (zeroValue t).run P w = .ok z w) (n : Nat) (f : Nat → Value) (hn : z.cells.size = n) (hf : ∀ i, i < n → z.cells[i]? = some (f i))
    (h : ∀ w', w'.rowIs w.heap.size t n f → Ext w w' → wpList P ops K rest (a.put o.dst (.pointer (some ⟨w.heap.size, 0, none⟩))) w') : wpList P ops K (o :: rest) a w := by
  refine wpList_val (w' := w.alloc (.cells z.cells t)) (v := .pointer (some ⟨w.heap.size, 0, none⟩)) hgd ?_ (h _ ?_ (Ext.of_alloc _ _))
  · unfold execOp
    simp only [ho, Instr.alloc, newVar, newRow, Sem.run_bind, hz, Result.andThen_ok, Sem.run_pure, run_newObj_alloc]
  · rw [← hn]; exact World.rowIs_alloc w z.cells t f (by rw [hn]; exact hf)

/-- A variable of a given value. -/
theorem wpList_box_row (hgd : o.guard = none) (t : TypeId) (x : Operand) (ho : o.op = .box t x) (v : Value) (hx : a.eval x = v) (n : Nat) (f : Nat → Value) (hv : AggIs v n f)
    (h : ∀ w', w'.rowIs w.heap.size t n f → Ext w w' → wpList P ops K rest (a.put o.dst (.pointer (some ⟨w.heap.size, 0, none⟩))) w') : wpList P ops K (o :: rest) a w := by
  obtain ⟨cs, rfl, hs, hc⟩ := hv
  refine wpList_val (w' := w.alloc (.cells cs t)) (v := .pointer (some ⟨w.heap.size, 0, none⟩)) hgd ?_ (h _ ?_ (Ext.of_alloc _ _))
  · unfold execOp
    simp only [ho, hx, Instr.box, newVar, newRow, Value.cells, Sem.run_bind, Result.andThen_ok, Sem.run_pure, run_newObj_alloc]
  · rw [← hs]; exact World.rowIs_alloc w cs t f (by rw [hs]; exact hc)

theorem add_addr (g o j : Nat) : (⟨g, o, none⟩ : Addr).add j = ⟨g, o + j, none⟩ := by
  unfold Addr.add
  split
  · rename_i h; subst h; rfl
  · rfl

theorem run_loadVar_agg (g off : Nat) (ty : TypeId) (d : TypeDesc) (hu : P.underlying ty = some d) (hd : (match d with | .struct _ | .array _ _ => true | _ => false) = true) (n : Nat) (hi : (P.info? ty).map (·.size) = some n)
    (f : Nat → Value) (hc : ∀ i, i < n → w.cell? ⟨g, off + i, none⟩ = some (f i)) : (loadVar ty ⟨g, off, none⟩).run P w = .ok (.agg ((List.range n).map f).toArray) w := by
  have hl : (loadCells ⟨g, off, none⟩ ((List.range n).map f).length).run P w = .ok ((List.range n).map f).toArray w :=
    run_loadCells_list (P := P) w ⟨g, off, none⟩ _ (fun j v hv => by
      rw [add_addr]
      obtain ⟨hj, hv⟩ := List.getElem?_eq_some_iff.1 hv
      simp at hj
      simp at hv
      rw [hc j hj, hv])
  rw [List.length_map, List.length_range] at hl
  cases hq : P.info? ty with
  | none => simp [hq] at hi
  | some i =>
    have hs : i.size = n := by simpa [hq] using hi
    have hagg : (isAgg ty).run P w = .ok true w := by
      unfold isAgg
      rw [Sem.run_bind, run_underlying hu w]
      cases d <;> simp_all
    simp [loadVar, Sem.run_bind, hagg, sizeOf, typeInfo, hq, hs, hl]
theorem aggIs_range (n : Nat) (f : Nat → Value) : AggIs (.agg ((List.range n).map f).toArray) n f := ⟨_, rfl, by simp, fun i hi => by simp [hi]⟩

/-- A struct or an array read as a whole. -/
theorem wpList_load_agg (hgd : o.guard = none) (ty : TypeId) (x : Operand) (ho : o.op = .load ty x) (g off : Nat) (hx : a.eval x = .pointer (some ⟨g, off, none⟩))
    (d : TypeDesc) (hu : P.underlying ty = some d) (hd : (match d with | .struct _ | .array _ _ => true | _ => false) = true) (n : Nat) (hi : (P.info? ty).map (·.size) = some n)
    (f : Nat → Value) (hc : ∀ i, i < n → w.cell? ⟨g, off + i, none⟩ = some (f i))
    (h : ∀ v, AggIs v n f → wpList P ops K rest (a.put o.dst v) w) : wpList P ops K (o :: rest) a w := by
  refine wpList_val (w' := w) (v := .agg ((List.range n).map f).toArray) hgd ?_ (h _ (aggIs_range n f))
  unfold execOp
  simp only [ho, hx, Instr.loadAt, Instr.sureAddr, Sem.run_bind, Sem.run_pure, Result.andThen_ok, run_loadVar_agg g off ty d hu hd n hi f hc]

theorem run_storeVar_agg (g off : Nat) (ty t : TypeId) (n : Nat) (hi : (P.info? ty).map (·.size) = some n) (v : Value) (f' : Nat → Value) (hv : AggIs v n f') (h1 : ∀ i, i < n → (f' i).oneCell' = true)
    (m : Nat) (f : Nat → Value) (hr : w.rowIs g t m f) (hm : off + n ≤ m) :
    ∃ w', (storeVar ty ⟨g, off, none⟩ v).run P w = .ok () w' ∧ w'.rowIs g t m (fun i => if off ≤ i ∧ i < off + n then f' (i - off) else f i) ∧ Put g w w' := by
  obtain ⟨cs, rfl, hs, hcs⟩ := hv
  obtain ⟨cur, hh, hcur, hf⟩ := hr
  have hrun := run_storeCells_at (P := P) g off t cs.toList 0 cur w hh (by simp; omega) (fun x hx => by
    obtain ⟨i, hi', hx⟩ := List.mem_iff_getElem.1 hx
    have hin : i < n := by simpa [hs] using hi'
    have := hcs i hin
    rw [← hx]
    have e : cs.toList[i] = f' i := by
      have h2 : cs[i]? = some cs[i] := Array.getElem?_eq_getElem (by omega)
      rw [this] at h2
      simpa using h2.symm
    rw [e]; exact h1 i hin)
  refine ⟨w.setRow g (cur.toList.take (off + 0) ++ cs.toList ++ cur.toList.drop (off + 0 + cs.toList.length)).toArray, ?_, ⟨_, setRow_heap w g cur _ t (0, 0) hh, ?_, fun i hi' => ?_⟩, Put.of_setRow _ _ _⟩
  · cases hq : P.info? ty with
    | none => simp [hq] at hi
    | some inf =>
      have hsz : inf.size = n := by simpa [hq] using hi
      simp only [Nat.add_zero] at hrun
      simp [storeVar, Sem.run_bind, sizeOf, typeInfo, hq, Value.cells, hsz, hs, hrun]
  · simp [hs]; omega
  · simp only [List.getElem?_toArray, Nat.add_zero]
    by_cases hlo : off ≤ i ∧ i < off + n
    · rw [if_pos hlo]
      rw [List.getElem?_append_left (by simp [hs]; omega), List.getElem?_append_right (by simp; omega)]
      have := hcs (i - off) (by omega)
      rw [List.length_take, Nat.min_eq_left (by simp; omega)]
      simpa using this
    · rw [if_neg hlo]
      by_cases h2 : i < off
      · rw [List.append_assoc, List.getElem?_append_left (by simp; omega), List.getElem?_take, if_pos h2]
        simpa using hf i hi'
      · rw [List.getElem?_append_right (by simp [hs]; omega), List.getElem?_drop]
        have e : off + cs.toList.length + (i - (List.take off cur.toList ++ cs.toList).length) = i := by simp [hs]; omega
        rw [e]
        simpa using hf i hi'

/-- A struct or an array written as a whole. -/
theorem wpList_store_agg (hgd : o.guard = none) (ty : TypeId) (ad x : Operand) (ho : o.op = .store ty ad x) (g off : Nat) (had : a.eval ad = .pointer (some ⟨g, off, none⟩)) (v : Value) (hx : a.eval x = v)
    (n : Nat) (hi : (P.info? ty).map (·.size) = some n) (f' : Nat → Value) (hv : AggIs v n f') (h1 : ∀ i, i < n → (f' i).oneCell' = true)
    (t : TypeId) (m : Nat) (f : Nat → Value) (hr : w.rowIs g t m f) (hm : off + n ≤ m)
    (h : ∀ w', w'.rowIs g t m (fun i => if off ≤ i ∧ i < off + n then f' (i - off) else f i) → Put g w w' → wpList P ops K rest (a.put o.dst undef) w') : wpList P ops K (o :: rest) a w := by
  obtain ⟨w', hrun, hrow, hput⟩ := run_storeVar_agg (P := P) (w := w) g off ty t n hi v f' hv h1 m f hr hm
  refine wpList_unit (w' := w') hgd ?_ (h w' hrow hput)
  unfold execOp
  simp only [ho, had, hx, Instr.storeAt, Instr.sureAddr, Sem.run_bind, Sem.run_pure, Result.andThen_ok, hrun]

/-- A whole struct of its very block. -/
theorem wpList_store_all (hgd : o.guard = none) (ty : TypeId) (ad x : Operand) (ho : o.op = .store ty ad x) (g : Nat) (had : a.eval ad = .pointer (some ⟨g, 0, none⟩)) (v : Value) (hx : a.eval x = v)
    (n : Nat) (hi : (P.info? ty).map (·.size) = some n) (f' : Nat → Value) (hv : AggIs v n f') (h1 : ∀ i, i < n → (f' i).oneCell' = true)
    (t : TypeId) (f : Nat → Value) (hr : w.rowIs g t n f)
    (h : ∀ w', w'.rowIs g t n f' → Put g w w' → wpList P ops K rest (a.put o.dst undef) w') : wpList P ops K (o :: rest) a w :=
  wpList_store_agg hgd ty ad x ho g 0 had v hx n hi f' hv h1 t n f hr (by omega) fun w' hrow hput => h w' (hrow.congr fun i hi => by rw [if_pos ⟨Nat.zero_le _, by omega⟩]; rfl) hput
end

/-! ### a struct built out of parts -/
/-- The cells with a segment put in. -/
def seg (cells : Array Value) (off : Nat) (part : Array Value) : Array Value := part.zipIdx.foldl (fun cs (c, j) => cs.setIfInBounds (off + j) c) cells
theorem seg_size (cells : Array Value) (off : Nat) (part : Array Value) : (seg cells off part).size = cells.size := by
  unfold seg
  rw [← Array.foldl_toList]
  have key : ∀ (l : List (Value × Nat)) (cs : Array Value), (l.foldl (fun cs (p : Value × Nat) => cs.setIfInBounds (off + p.2) p.1) cs).size = cs.size := by
    intro l
    induction l with
    | nil => intro cs; rfl
    | cons p l ih => intro cs; rw [List.foldl_cons, ih]; simp
  exact key _ _
theorem seg_get (cells : Array Value) (off : Nat) (part : Array Value) (h : off + part.size ≤ cells.size) (i : Nat) : (seg cells off part)[i]? = if off ≤ i ∧ i < off + part.size then part[i - off]? else cells[i]? := by
  have key : ∀ (l : List Value) (k : Nat) (cs : Array Value), off + k + l.length ≤ cs.size → ∀ i, ((l.zipIdx k).foldl (fun cs (p : Value × Nat) => cs.setIfInBounds (off + p.2) p.1) cs)[i]? = if off + k ≤ i ∧ i < off + k + l.length then l[i - (off + k)]? else cs[i]? := by
    intro l
    induction l with
    | nil => intro k cs _ i; rw [if_neg (by simp only [List.length_nil]; omega)]; rfl
    | cons x l ih =>
      intro k cs hc i
      simp only [List.length_cons] at hc
      rw [List.zipIdx_cons, List.foldl_cons, ih (k + 1) _ (by simp; omega)]
      by_cases h1 : off + (k + 1) ≤ i ∧ i < off + (k + 1) + l.length
      · rw [if_pos h1, if_pos (by simp only [List.length_cons]; omega)]
        rw [show i - (off + k) = (i - (off + (k + 1))) + 1 from by omega, List.getElem?_cons_succ]
      · rw [if_neg h1]
        by_cases h2 : i = off + k
        · subst h2
          rw [if_pos (by simp only [List.length_cons]; omega)]
          have hlt : off + k < cs.size := by omega
          simp [hlt]
        · rw [if_neg (by simp only [List.length_cons]; omega), Array.getElem?_setIfInBounds_ne (by omega)]
  have h2 := key part.toList 0 cells (by simpa using h) i
  unfold seg
  rw [← Array.foldl_toList, Array.toList_zipIdx]
  simpa using h2

theorem fill_nil (place : Nat → Option (Nat × Nat)) (cells : Array Value) : Instr.fill place cells [] = some cells := rfl
theorem fill_cons (place : Nat → Option (Nat × Nat)) (cells : Array Value) (i : Nat) (v : Value) (rest : List (Nat × Value)) (off size : Nat) (hp : place i = some (off, size)) (hv : v.cells.size = size) (hc : off + size ≤ cells.size) :
    Instr.fill place cells ((i, v) :: rest) = Instr.fill place (seg cells off v.cells) rest := by
  rw [Instr.fill, hp]
  subst hv
  dsimp only
  rw [if_neg (by simp; omega)]
  rfl

section
variable {P : Program} {w : World} {ops : Array Oper} {rest : List Oper} {o : Oper} {a : Act} {K : Exit → Act → World → Prop}
/-- A struct literal: what 'fill' makes of the zero. -/
theorem wpList_build_struct (hgd : o.guard = none) (t : TypeId) (parts : Array (Nat × Operand)) (ho : o.op = .build t parts) (z : Value) (hz : (zeroValue t).run P w = .ok z w)
    (fields : Array Field) (hu : P.underlying t = some (.struct fields)) (places : Array (Nat × Nat)) (hp : (fields.mapM (fun f => (do pure (f.offset, ← sizeOf f.type) : Sem (Nat × Nat)))).run P w = .ok places w)
    (pl : List (Nat × Value)) (hpl : parts.toList.map (fun p => (p.1, a.eval p.2)) = pl) (cs : Array Value) (hfill : Instr.fill (fun i => places[i]?) z.cells pl = some cs)
    (h : wpList P ops K rest (a.put o.dst (.agg cs)) w) : wpList P ops K (o :: rest) a w := by
  refine wpList_val (w' := w) (v := .agg cs) hgd ?_ h
  unfold execOp
  subst hpl
  have hfill' : Instr.fill (fun i => places[i]?) z.cells (parts.map fun (i, x) => (i, a.eval x)).toList = some cs := by rw [Array.toList_map]; exact hfill
  simp only [ho, Instr.build, Sem.run_bind, hz, Result.andThen_ok, run_underlying hu, hp, hfill']
  simp
end

/-- The operation that writes slot N. -/
theorem gate {P : Program} {w : World} {ops : Array Oper} {rest : List Oper} {o : Oper} {a : Act} {K : Exit → Act → World → Prop} (N : Tmp) (_hN : o.dst = some N) (h : wpList P ops K (o :: rest) a w) : wpList P ops K (o :: rest) a w := h

/-- Cells that begin so, and then are all alike. -/
def zRow (pre : List Value) (n : Nat) (z : Value) : Array Value := (pre ++ List.replicate n z).toArray
theorem zRow_size (pre : List Value) (n : Nat) (z : Value) : (zRow pre n z).size = pre.length + n := by simp [zRow]
theorem zRow_get (pre : List Value) (n : Nat) (z : Value) (i : Nat) (h : i < pre.length + n) : (zRow pre n z)[i]? = some (pre.getD i z) := by
  unfold zRow
  rw [List.getElem?_toArray]
  by_cases h2 : i < pre.length
  · rw [List.getElem?_append_left h2, List.getD_eq_getElem?_getD, List.getElem?_eq_getElem h2]; rfl
  · rw [List.getElem?_append_right (by omega), List.getElem?_replicate, if_pos (by omega), List.getD_eq_getElem?_getD, List.getElem?_eq_none (by omega)]; rfl

/-- The end of a function that hands back a struct and a value of one cell. -/
theorem ret_cell_tmp {P : Program} {fn : Func} {p u : Tmp} {ty : TypeId} {R : Ending → World → Prop} {a : Act} {w : World} (h : fn.results = #[.cell p ty, .tmp u]) (g : Nat) (hp : a.tmps.getD p undef = .pointer (some ⟨g, 0, none⟩))
    (d : TypeDesc) (hu : P.underlying ty = some d) (hd : (match d with | .struct _ | .array _ _ => true | _ => false) = true) (n : Nat) (hi : (P.info? ty).map (·.size) = some n)
    (f : Nat → Value) (hc : ∀ i, i < n → w.cell? ⟨g, 0 + i, none⟩ = some (f i)) (hdf : a.defers = []) (hR : ∀ v, AggIs v n f → R (.returned (.tuple #[v, a.tmps.getD u undef])) w) : bodyPost P fn R .ret a w := by
  refine bodyPost_ret_by (v := .tuple #[.agg ((List.range n).map f).toArray, a.tmps.getD u undef]) ?_ hdf (hR _ (aggIs_range n f))
  rw [results_cell_tmp h, hp]
  simp only [asAddr, Sem.run_pure, Result.andThen_ok, run_loadVar_agg g 0 ty d hu hd n hi f hc]
/-- The end of a function that hands back a struct. -/
theorem ret_cell {P : Program} {fn : Func} {p : Tmp} {ty : TypeId} {R : Ending → World → Prop} {a : Act} {w : World} (h : fn.results = #[.cell p ty]) (g : Nat) (hp : a.tmps.getD p undef = .pointer (some ⟨g, 0, none⟩))
    (d : TypeDesc) (hu : P.underlying ty = some d) (hd : (match d with | .struct _ | .array _ _ => true | _ => false) = true) (n : Nat) (hi : (P.info? ty).map (·.size) = some n)
    (f : Nat → Value) (hc : ∀ i, i < n → w.cell? ⟨g, 0 + i, none⟩ = some (f i)) (hdf : a.defers = []) (hR : ∀ v, AggIs v n f → R (.returned v) w) : bodyPost P fn R .ret a w := by
  refine bodyPost_ret_by (v := .agg ((List.range n).map f).toArray) ?_ hdf (hR _ (aggIs_range n f))
  have hp' : a.tmps[p]?.getD undef = .pointer (some ⟨g, 0, none⟩) := by simpa using hp
  simp [results, h, hp', asAddr, run_loadVar_agg g 0 ty d hu hd n hi f hc]
theorem row_cells {w : World} {g n : Nat} {t : TypeId} {f : Nat → Value} (h : w.rowIs g t n f) : ∀ i, i < n → w.cell? ⟨g, 0 + i, none⟩ = some (f i) := fun i hi => by rw [Nat.zero_add]; exact h.cell hi
end Go.Proofs.Ytffpaeljnfmmiaa
