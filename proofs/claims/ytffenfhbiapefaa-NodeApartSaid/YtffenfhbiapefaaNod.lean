/- Names of pieces: arrays of 32 bytes: what they are, whether two are the same, rows of them. -/
import Derived.Test.YtffenfhbiapefaaOpg
import Derived.Test.YtffenfhbiapefaaBts
import Derived.Test.YtffenfhbiapefaaAgg
import Derived.Test.YtffenfhbiapefaaStep
import Derived.ChangeKeysEq
namespace Go.Proofs.Ytffenfhbiapefaa
set_option linter.unusedVariables false
set_option linter.unusedSimpArgs false
open Go.RowKit

section
def arrF (L : List Nat) (i : Nat) : Value := B8 (L.getD i 0)
/-- An array of 32 bytes, its cells. -/
def arrO (L : List Nat) : Array Value := ((List.range 32).map (arrF L)).toArray
theorem arrO_size (L : List Nat) : (arrO L).size = 32 := by simp [arrO]
theorem arrO_get (L : List Nat) {i : Nat} (hi : i < 32) : (arrO L)[i]? = some (arrF L i) := by simp [arrO, hi]
theorem arrO_agg (L : List Nat) : AggIs (.agg (arrO L)) 32 (arrF L) := ⟨_, rfl, by simp [arrO], fun i hi => by simp [arrO, hi]⟩
theorem arrO_eq {V : Value} {L : List Nat} (h : AggIs V 32 (arrF L)) : V = .agg (arrO L) := AggIs.unique h (arrO_agg L)
/-- No name. -/
def noId : List Nat := List.replicate 32 0
theorem noId_len : noId.length = 32 := rfl
theorem infoI : (Try.prog.info? 24).map (fun i => (i.zero, i.size, i.bytes)) = some (some (.agg (arrO noId)), 32, 32) := by kernel_rfl
theorem sizeI : (Try.prog.info? 24).map (·.size) = some 32 := by kernel_rfl
theorem zeroI (w : World) : (zeroValue 24).run Try.prog w = .ok (.agg (arrO noId)) w := by kernel_rfl
theorem eqItems_bytes (L M : List Nat) (d : Nat) (w : World) : ∀ is : List Nat, (∀ i ∈ is, i < 32) →
    (Op.eqItems (d + 1) 5 1 (arrO L) (arrO M) is).run Try.prog w = .ok (is.all fun i => L.getD i 0 == M.getD i 0) w
  | [], _ => by simp [Op.eqItems]
  | i :: is, h => by
    have hi := h i (by simp)
    have hp : ∀ K, (part 5 (arrO K) (i * 1)).run Try.prog w = .ok (B8 (K.getD i 0)) w := fun K => by
      refine run_part_plain w (by kernel_rfl) ?_
      rw [Nat.mul_one]
      simp [arrO, hi, arrF]
    have ih := eqItems_bytes L M d w is (fun j hj => h j (by simp [hj]))
    have he : (Op.equalIn (d + 1) 5 (B8 (L.getD i 0)) (B8 (M.getD i 0))).run Try.prog w = .ok (((L.getD i 0 : Nat) : Int) == ((M.getD i 0 : Nat) : Int)) w := run_equalIn_int w d 5 .u8 .u8 _ _ Try.underlying5
    have hb : (((L.getD i 0 : Nat) : Int) == ((M.getD i 0 : Nat) : Int)) = (L.getD i 0 == M.getD i 0) := by
      rw [Bool.eq_iff_iff, beq_iff_eq, beq_iff_eq]; omega
    rw [hb] at he
    simp only [Op.eqItems, Sem.run_bind, hp, he, Result.andThen_ok, List.all_cons]
    cases L.getD i 0 == M.getD i 0
    · simp
    · simpa using ih
theorem eq_id (L M : List Nat) (hl : L.length = 32) (hm : M.length = 32) (w : World) : (Op.equalIn 10000 24 (.agg (arrO L)) (.agg (arrO M))).run Try.prog w = .ok (decide (L = M)) w := by
  obtain ⟨i8, hi8, hz80, hz81, hz82⟩ := info_parts info8
  have hc : Try.prog.cellsOf 5 = 1 := by kernel_rfl
  have h1 := run_equalIn_array w 9999 (arrO L) (arrO M) Try.underlying24 hi8
  have h2 := eqItems_bytes L M 9998 w (List.range 32) (fun i hi => List.mem_range.1 hi)
  rw [hc] at h1
  refine (h1.trans h2).trans (congrArg (fun b => Result.ok b w) ?_)
  rw [Bool.eq_iff_iff, List.all_eq_true, decide_eq_true_iff]
  constructor
  · intro h
    refine List.ext_getElem (by omega) fun i h1 h2 => ?_
    have h3 := beq_iff_eq.1 (h i (List.mem_range.2 (by omega)))
    rwa [List.getD_eq_getElem?_getD, List.getD_eq_getElem?_getD, List.getElem?_eq_getElem h1, List.getElem?_eq_getElem h2] at h3
  · rintro rfl i _
    exact beq_iff_eq.2 rfl
theorem eqGuardI : Try.prog.eqGuardType Try.prog.depth 24 = false := by kernel_rfl
theorem run_eql_id (op : Oper) (L M : List Nat) (hl : L.length = 32) (hm : M.length = 32) (ρ : Operand → Value) (x y : Operand) (t : TypeId) (ho : op.op = .binOp .eql 24 x y t) (hx : ρ x = .agg (arrO L)) (hy : ρ y = .agg (arrO M)) (w : World) : (execOp ρ op).run Try.prog w = .ok (.value (.bool (decide (L = M)))) w := by
  have h1 : (eqGuard .eql 24 x y (.agg (arrO L)) (.agg (arrO M))).run Try.prog w = .ok () w := run_eqGuard_agg w .eql 24 x y (arrO L) (arrO M) eqGuardI
  have h2 : (binOp .eql 24 (.agg (arrO L)) (.agg (arrO M))).run Try.prog w = .ok (.bool (decide (L = M))) w := by
    rw [run_eql_struct, eq_id L M hl hm w]; rfl
  unfold execOp
  simp only [ho, hx, hy, Sem.run_bind, h1, Result.andThen_ok, h2, Sem.run_pure]
theorem run_neq_id (op : Oper) (L M : List Nat) (hl : L.length = 32) (hm : M.length = 32) (ρ : Operand → Value) (x y : Operand) (t : TypeId) (ho : op.op = .binOp .neq 24 x y t) (hx : ρ x = .agg (arrO L)) (hy : ρ y = .agg (arrO M)) (w : World) : (execOp ρ op).run Try.prog w = .ok (.value (.bool (!decide (L = M)))) w := by
  have h1 : (eqGuard .neq 24 x y (.agg (arrO L)) (.agg (arrO M))).run Try.prog w = .ok () w := run_eqGuard_agg w .neq 24 x y (arrO L) (arrO M) eqGuardI
  have h2 : (binOp .neq 24 (.agg (arrO L)) (.agg (arrO M))).run Try.prog w = .ok (.bool (!decide (L = M))) w := by
    rw [run_neq_struct, eq_id L M hl hm w]; rfl
  unfold execOp
  simp only [ho, hx, hy, Sem.run_bind, h1, Result.andThen_ok, h2, Sem.run_pure]
theorem run_no_id (op : Oper) (ρ : Operand → Value) (w : World) (ho : op.op = .build 24 #[]) : (execOp ρ op).run Try.prog w = .ok (.value (.agg (arrO noId))) w := by
  have h1 : (Instr.build 24 #[]).run Try.prog w = .ok (.agg (arrO noId)) w := by kernel_rfl
  unfold execOp
  simp only [ho, List.map_toArray, List.map_nil, Sem.run_bind, h1, Result.andThen_ok, Sem.run_pure]
/-- A name is read out of memory. -/
theorem load_id {w : World} {a : Act} {o : Oper} {g : Nat} (off : Nat) {L : List Nat} (x : Operand) (ho : o.op = .load 24 x) (hx : a.eval x = .pointer (some ⟨g, off, none⟩)) (hc : ∀ i, i < 32 → w.cell? ⟨g, off + i, none⟩ = some (arrF L i)) : (execOp a.eval o).run Try.prog w = .ok (.value (.agg (arrO L))) w :=
  exec_load_agg 24 x ho g off hx _ Try.underlying24 rfl 32 sizeI (arrF L) hc
/-- An array of 32 bytes, as a row's cells. -/
def gL (P : List Nat) : List Value := (List.range 32).map (arrF P)
theorem gL_len (P : List Nat) : (gL P).length = 32 := by simp [gL]
theorem gL_one (P : List Nat) : ∀ u ∈ gL P, u.oneCell' = true := fun u hu => by
  obtain ⟨i, _, rfl⟩ := List.mem_map.1 hu
  rfl
theorem gL_get (P : List Nat) (i : Nat) (hi : i < 32) : (gL P)[i]? = some (arrF P i) := by simp [gL, hi]
/-- Cells of a row of names. -/
theorem ids_cell {w : World} {ok : Nat → Prop} {g o : Nat} {ids : List (List Nat)} (h : ∀ j u, (ids.flatMap gL)[j]? = some u → w.cell? ⟨g, o + j, none⟩ = some u) (k : Nat) (hk : k < ids.length) : ∀ i, i < 32 → w.cell? ⟨g, o + k * 32 + i, none⟩ = some (arrF ids[k] i) := fun i hi => by
  rw [Nat.add_assoc]
  refine h (k * 32 + i) _ ?_
  rw [flat_at (size := 32) ids (fun a _ => gL_len a) k i hk hi, gL_get _ _ hi]
section
open Go.ChangeShapes Go.WideShapes Go.Deep
variable {H : Type} {enc : TypeId × Value → H} {w : World} {held : Bool}
/-- Cells that hold 32 bytes. -/
def IdR (cs : List Value) (L : List Nat) : Prop := cs = gL L ∧ (∀ x ∈ L, x ≤ 255) ∧ L.length = 32
theorem opens_id : Opens enc Try.prog w held 24 IdR := fun k cs y h => by
  have hC : Try.prog.cellsOf 24 = 32 := by kernel_rfl
  have hC1 : Try.prog.cellsOf 5 = 1 := by kernel_rfl
  obtain ⟨l, hcl, hl, hat⟩ := Opens.array (enc := enc) (P := Try.prog) (w := w) (held := held) (n := 32) Try.underlying24 (Opens.int Try.underlying5) _ _ _ h
  rw [hC] at hcl
  have hcell : ∀ i (hi : i < l.length), cs[i]? = some (.int .u8 l[i]) ∧ (Lit.int .u8 l[i]).wf = true := fun i hi => by
    obtain ⟨h1, h2⟩ := hat i hi
    rw [hC1, Nat.mul_one] at h1
    refine ⟨?_, h2⟩
    have h3 := congrArg (·[0]?) h1
    simpa using h3
  have hz : ∀ z ∈ l, 0 ≤ z ∧ z ≤ 255 := fun z hz => by
    obtain ⟨i, hi, rfl⟩ := List.getElem_of_mem hz
    exact wf8 (hcell i hi).2
  refine ⟨l.map Int.toNat, ?_, fun x hx => ?_, by rw [List.length_map, hl]⟩
  · apply List.ext_getElem?
    intro i
    by_cases hi : i < 32
    · have hil : i < l.length := by rw [hl]; exact hi
      rw [(hcell i hil).1, gL_get _ _ hi]
      have h4 := hz _ (List.getElem_mem hil)
      have h5 : (l.map Int.toNat).getD i 0 = l[i].toNat := by rw [List.getD_eq_getElem?_getD, List.getElem?_map, List.getElem?_eq_getElem hil]; rfl
      unfold arrF B8
      rw [h5, Int.toNat_of_nonneg h4.1]
    · rw [List.getElem?_eq_none (by omega), List.getElem?_eq_none (by rw [gL_len]; omega)]
  · obtain ⟨z, hz', rfl⟩ := List.mem_map.1 hx
    have := hz z hz'
    omega
end
end

section
structure Nd where
  name : ByteArray
  kind : Int
  mode : Int
  time : Int
  size : Int
  target : ByteArray
  ids : List (List Nat)
  tree : List Nat
/-- A node's cells; its list lies at A. -/
def ndF (n : Nd) (A : Option Addr) (pn pc : Nat) (i : Nat) : Value :=
  if i = 0 then .string n.name else if i = 1 then .int .i64 n.kind else if i = 2 then .int .i64 n.mode else if i = 3 then .int .i64 n.time else if i = 4 then .int .i64 n.size else if i = 5 then .string n.target else if i = 6 then .slice A pn pc else arrF n.tree (i - 7)
def ndH (n : Nd) (A : Option Addr) (pn pc : Nat) : List Value := [.string n.name, .int .i64 n.kind, .int .i64 n.mode, .int .i64 n.time, .int .i64 n.size, .string n.target, .slice A pn pc]
def ndL (n : Nd) (A : Option Addr) (pn pc : Nat) : List Value := ndH n A pn pc ++ gL n.tree
def ndC (n : Nd) (A : Option Addr) (pn pc : Nat) : Array Value := (ndL n A pn pc).toArray
theorem ndL_len (n : Nd) (A : Option Addr) (pn pc : Nat) : (ndL n A pn pc).length = 39 := by simp [ndL, ndH, gL]
theorem ndL_get (n : Nd) (A : Option Addr) (pn pc : Nat) (i : Nat) (hi : i < 39) : (ndL n A pn pc)[i]? = some (ndF n A pn pc i) := by
  unfold ndL
  by_cases h : i < 7
  · rw [List.getElem?_append_left (by simpa [ndH] using h)]
    rcases (show i = 0 ∨ i = 1 ∨ i = 2 ∨ i = 3 ∨ i = 4 ∨ i = 5 ∨ i = 6 by omega) with rfl | rfl | rfl | rfl | rfl | rfl | rfl <;> rfl
  · rw [List.getElem?_append_right (by simp [ndH]; omega), show (ndH n A pn pc).length = 7 from rfl, gL_get _ _ (by omega)]
    unfold ndF
    rw [if_neg (by omega), if_neg (by omega), if_neg (by omega), if_neg (by omega), if_neg (by omega), if_neg (by omega), if_neg (by omega)]
theorem ndC_size (n : Nd) (A : Option Addr) (pn pc : Nat) : (ndC n A pn pc).size = 39 := by simp [ndC, ndL_len]
theorem ndC_get (n : Nd) (A : Option Addr) (pn pc : Nat) (i : Nat) (hi : i < 39) : (ndC n A pn pc)[i]? = some (ndF n A pn pc i) := by
  unfold ndC; rw [List.getElem?_toArray]; exact ndL_get n A pn pc i hi
theorem nd_agg (n : Nd) (A : Option Addr) (pn pc : Nat) : AggIs (.agg (ndC n A pn pc)) 39 (ndF n A pn pc) := ⟨_, rfl, ndC_size n A pn pc, ndC_get n A pn pc⟩
theorem ndF_one (n : Nd) (A : Option Addr) (pn pc i : Nat) : (ndF n A pn pc i).oneCell' = true := by
  unfold ndF
  repeat (split; · rfl)
  rfl
theorem ndL_one (n : Nd) (A : Option Addr) (pn pc : Nat) : ∀ u ∈ ndL n A pn pc, u.oneCell' = true := fun u hu => by
  obtain ⟨i, hi, rfl⟩ := List.getElem_of_mem hu
  have h := ndL_get n A pn pc i (by rw [ndL_len] at hi; exact hi)
  rw [List.getElem?_eq_getElem hi] at h
  rw [Option.some.inj h]; exact ndF_one n A pn pc i
/-- A node that lies in memory at ⟨g, o⟩. -/
def NodeAt (w : World) (g o : Nat) (n : Nd) (A : Option Addr) (pn pc : Nat) : Prop := ∀ i, i < 39 → w.cell? ⟨g, o + i, none⟩ = some (ndF n A pn pc i)
section
variable {w : World} {g o : Nat} {n : Nd} {A : Option Addr} {pn pc : Nat}
theorem NodeAt.name (h : NodeAt w g o n A pn pc) : w.cell? ⟨g, o, none⟩ = some (.string n.name) := h 0 (by omega)
theorem NodeAt.kind (h : NodeAt w g o n A pn pc) : w.cell? ⟨g, o + 1, none⟩ = some (.int .i64 n.kind) := h 1 (by omega)
theorem NodeAt.mode (h : NodeAt w g o n A pn pc) : w.cell? ⟨g, o + 2, none⟩ = some (.int .i64 n.mode) := h 2 (by omega)
theorem NodeAt.time (h : NodeAt w g o n A pn pc) : w.cell? ⟨g, o + 3, none⟩ = some (.int .i64 n.time) := h 3 (by omega)
theorem NodeAt.size (h : NodeAt w g o n A pn pc) : w.cell? ⟨g, o + 4, none⟩ = some (.int .i64 n.size) := h 4 (by omega)
theorem NodeAt.target (h : NodeAt w g o n A pn pc) : w.cell? ⟨g, o + 5, none⟩ = some (.string n.target) := h 5 (by omega)
theorem NodeAt.parts (h : NodeAt w g o n A pn pc) : w.cell? ⟨g, o + 6, none⟩ = some (.slice A pn pc) := h 6 (by omega)
theorem NodeAt.tree (h : NodeAt w g o n A pn pc) : ∀ i, i < 32 → w.cell? ⟨g, o + 7 + i, none⟩ = some (arrF n.tree i) := fun i hi => by
  have h1 := h (7 + i) (by omega)
  rw [← Nat.add_assoc] at h1
  rw [h1]
  unfold ndF
  rw [if_neg (by omega), if_neg (by omega), if_neg (by omega), if_neg (by omega), if_neg (by omega), if_neg (by omega), if_neg (by omega), Nat.add_sub_cancel_left]
theorem NodeAt.of_row {t : TypeId} (h : w.rowIs g t 39 (ndF n A pn pc)) : NodeAt w g 0 n A pn pc := fun i hi => by rw [Nat.zero_add]; exact h.cell hi
end
/-- The cells of a box that holds a node: its seven first. -/
theorem nd_cells {w : World} {g : Nat} {n : Nd} {A : Option Addr} {pn pc : Nat} (h : NodeAt w g 0 n A pn pc) :
    w.cell? ⟨g, 0, none⟩ = some (.string n.name) ∧ w.cell? ⟨g, 1, none⟩ = some (.int .i64 n.kind) ∧ w.cell? ⟨g, 2, none⟩ = some (.int .i64 n.mode) ∧ w.cell? ⟨g, 3, none⟩ = some (.int .i64 n.time) ∧ w.cell? ⟨g, 4, none⟩ = some (.int .i64 n.size) ∧ w.cell? ⟨g, 5, none⟩ = some (.string n.target) ∧ w.cell? ⟨g, 6, none⟩ = some (.slice A pn pc) :=
  ⟨h 0 (by omega), h 1 (by omega), h 2 (by omega), h 3 (by omega), h 4 (by omega), h 5 (by omega), h 6 (by omega)⟩
theorem sizeN : (Try.prog.info? 33).map (·.size) = some 39 := by kernel_rfl
theorem sizeR : (Try.prog.info? 26).map (·.size) = some 39 := by kernel_rfl
/-- No node. -/
def noNd : Nd := ⟨⟨#[]⟩, 0, 0, 0, 0, ⟨#[]⟩, [], noId⟩
theorem infoN : (Try.prog.info? 33).map (fun i => (i.zero, i.size, i.bytes)) = some (some (.agg (ndC noNd none 0 0)), 39, 120) := by kernel_rfl
theorem infoR : (Try.prog.info? 26).map (fun i => (i.zero, i.size, i.bytes)) = some (some (.agg (ndC noNd none 0 0)), 39, 120) := by kernel_rfl
theorem zeroN (w : World) : (zeroValue 33).run Try.prog w = .ok (.agg (ndC noNd none 0 0)) w := by kernel_rfl
theorem zeroRN (w : World) : (zeroValue 26).run Try.prog w = .ok (.agg (ndC noNd none 0 0)) w := by kernel_rfl

section
open Go.ChangeShapes Go.WideShapes Go.Deep
variable {H : Type} {enc : TypeId × Value → H} {w : World} {held : Bool}
/-- A node that came in, and where its list lies. -/
structure NdIn where
  n : Nd
  A : Option Addr
  pn : Nat
  pc : Nat
structure NdOk (w : World) (z : NdIn) : Prop where
  parts : RowOfR w 32 IdR z.A z.pn z.pc z.n.ids
  tree : (∀ x ∈ z.n.tree, x ≤ 255) ∧ z.n.tree.length = 32
  name : z.n.name.size ≤ maxLen
  target : z.n.target.size ≤ maxLen
  kind : (Lit.int .i64 z.n.kind).wf = true
  mode : (Lit.int .i64 z.n.mode).wf = true
  time : (Lit.int .i64 z.n.time).wf = true
  size : (Lit.int .i64 z.n.size).wf = true
def NdR (w : World) (cs : List Value) (z : NdIn) : Prop := cs = ndL z.n z.A z.pn z.pc ∧ NdOk w z
theorem split39 (cs c0 c1 c2 c3 c4 c5 c6 c7 : List Value) (hl : cs.length = 39) (h0 : (cs.drop 0).take 1 = c0) (h1 : (cs.drop 1).take 1 = c1) (h2 : (cs.drop 2).take 1 = c2) (h3 : (cs.drop 3).take 1 = c3) (h4 : (cs.drop 4).take 1 = c4)
    (h5 : (cs.drop 5).take 1 = c5) (h6 : (cs.drop 6).take 1 = c6) (h7 : (cs.drop 7).take 32 = c7) : cs = c0 ++ (c1 ++ (c2 ++ (c3 ++ (c4 ++ (c5 ++ (c6 ++ c7)))))) := by
  have e : ∀ k, cs.drop k = (cs.drop k).take 1 ++ cs.drop (k + 1) := fun k => by rw [← List.drop_drop (i := 1) (j := k), List.take_append_drop]
  have e0 := e 0
  rw [List.drop_zero] at e0 h0
  rw [List.take_of_length_le (by rw [List.length_drop]; omega)] at h7
  rw [← h0, ← h1, ← h2, ← h3, ← h4, ← h5, ← h6, ← h7, ← e 6, ← e 5, ← e 4, ← e 3, ← e 2, ← e 1]
  exact e0
set_option maxRecDepth 100000 in
theorem opens_node : Opens enc Try.prog w held 26 (NdR w) := fun fuel cs y hf => by
  obtain ⟨hl, hfield⟩ := Opens.field Try.underlying26 hf
  obtain ⟨a0, p0, q0⟩ := hfield 0 _ rfl (Opens.string Try.underlying9)
  obtain ⟨a1, p1, q1⟩ := hfield 1 _ rfl (Opens.int Try.underlying3)
  obtain ⟨a2, p2, q2⟩ := hfield 2 _ rfl (Opens.int Try.underlying3)
  obtain ⟨a3, p3, q3⟩ := hfield 3 _ rfl (Opens.int Try.underlying3)
  obtain ⟨a4, p4, q4⟩ := hfield 4 _ rfl (Opens.int Try.underlying3)
  obtain ⟨a5, p5, q5⟩ := hfield 5 _ rfl (Opens.string Try.underlying9)
  obtain ⟨⟨A, n, c, zs⟩, p6, q6⟩ := hfield 6 _ rfl (Opens.slice Try.underlying22 32 (by kernel_rfl) (by omega) opens_id)
  obtain ⟨a7, p7, q7⟩ := hfield 7 _ rfl opens_id
  have hC : Try.prog.cellsOf 26 = 39 := by kernel_rfl
  have c0 : Try.prog.cellsOf 9 = 1 := by kernel_rfl
  have c1 : Try.prog.cellsOf 3 = 1 := by kernel_rfl
  have c2 : Try.prog.cellsOf 22 = 1 := by kernel_rfl
  have c3 : Try.prog.cellsOf 24 = 32 := by kernel_rfl
  rw [hC] at hl
  simp only [c0, c1, c2, c3] at p0 p1 p2 p3 p4 p5 p6 p7
  refine ⟨⟨⟨a0, a1, a2, a3, a4, a5, zs, a7⟩, A, n, c⟩, ?_, ⟨q6, q7, q0, q5, q1, q2, q3, q4⟩⟩
  exact split39 cs _ _ _ _ _ _ _ _ hl p0 p1 p2 p3 p4 p5 p6 p7
set_option maxRecDepth 100000 in
theorem rowOf_nodes {a : Option Addr} {n c : Nat} {d : DataW H} {ps : List MemPlace} (h : DataW.Trod enc Try.prog w 0 (fun _ => true) held 29 (.slice a n c) d ps) : ∃ zs, RowOfR w 39 (NdR w) a n c zs := by
  obtain ⟨fuel, hf⟩ := h
  obtain ⟨⟨A, n', c', zs⟩, h1, h2⟩ := Opens.slice Try.underlying29 39 (by kernel_rfl) (by omega) opens_node _ _ _ hf
  simp [Value.cells] at h1
  obtain ⟨rfl, rfl, rfl⟩ := h1
  exact ⟨zs, h2⟩
set_option maxRecDepth 100000 in
theorem node_of_trod {r : Reach} {b0 : Nat} {v : Value} {d : DataW H} {p : List MemPlace} (hv : Value.okWide Try.prog w r b0 26 v) (h : DataW.Trod enc Try.prog w 0 (fun _ => true) held 26 v d p) :
    ∃ z : NdIn, v = .agg (ndC z.n z.A z.pn z.pc) ∧ NdOk w z := by
  obtain ⟨cs, rfl, hsz⟩ : ∃ cs, v = .agg cs ∧ cs.size = Try.prog.cellsOf 26 := by
    simp only [Value.okWide, Try.underlying26] at hv
    obtain ⟨cs, h1, h2, _⟩ := hv
    exact ⟨cs, h1, h2⟩
  obtain ⟨fuel, hf⟩ := h
  obtain ⟨z, h1, h2⟩ := opens_node _ _ _ hf
  refine ⟨z, ?_, h2⟩
  refine congrArg Value.agg ?_
  exact Array.toList_inj.1 (show cs.toList = _ from h1)
end
end
end Go.Proofs.Ytffenfhbiapefaa
