/- Names of pieces: arrays of 32 bytes: what they are, whether two are the same, rows of them. -/
import Derived.Test.YtffenfhbiapefaaOpg
import Derived.Test.YtffenfhbiapefaaBts
import Derived.Test.YtffenfhbiapefaaAgg
import Derived.Test.YtffenfhbiapefaaStep
import Derived.ChangeKeysEq
namespace Go.Proofs.Ytffenfhbiapefaa
set_option linter.unusedVariables false
set_option linter.unusedSimpArgs false
open Go.RowKit

def arrF (L : List Nat) (i : Nat) : Value := B8 (L.getD i 0)
/-- An array of 32 bytes, its cells. -/
def arrO (L : List Nat) : Array Value := ((List.range 32).map (arrF L)).toArray
theorem arrO_size (L : List Nat) : (arrO L).size = 32 := by simp [arrO]
theorem arrO_get (L : List Nat) {i : Nat} (hi : i < 32) : (arrO L)[i]? = some (arrF L i) := by simp [arrO, hi]
theorem arrO_agg (L : List Nat) : AggIs (.agg (arrO L)) 32 (arrF L) := ⟨_, rfl, by simp [arrO], fun i hi => by simp [arrO, hi]⟩
theorem arrO_eq {V : Value} {L : List Nat} (h : AggIs V 32 (arrF L)) : V = .agg (arrO L) := AggIs.unique h (arrO_agg L)
/-- No name. -/
def noId : List Nat := List.replicate 32 0
theorem noId_len : noId.length = 32 := rfl
theorem infoI : (Try.prog.info? 24).map (fun i => (i.zero, i.size, i.bytes)) = some (some (.agg (arrO noId)), 32, 32) := by kernel_rfl
theorem sizeI : (Try.prog.info? 24).map (·.size) = some 32 := by kernel_rfl
theorem zeroI (w : World) : (zeroValue 24).run Try.prog w = .ok (.agg (arrO noId)) w := by kernel_rfl
theorem eqItems_bytes (L M : List Nat) (d : Nat) (w : World) : ∀ is : List Nat, (∀ i ∈ is, i < 32) →
    (Op.eqItems (d + 1) 5 1 (arrO L) (arrO M) is).run Try.prog w = .ok (is.all fun i => L.getD i 0 == M.getD i 0) w
  | [], _ => by simp [Op.eqItems]
  | i :: is, h => by
    have hi := h i (by simp)
    have hp : ∀ K, (part 5 (arrO K) (i * 1)).run Try.prog w = .ok (B8 (K.getD i 0)) w := fun K => by
      refine run_part_plain w (by kernel_rfl) ?_
      rw [Nat.mul_one]
      simp [arrO, hi, arrF]
    have ih := eqItems_bytes L M d w is (fun j hj => h j (by simp [hj]))
    have he : (Op.equalIn (d + 1) 5 (B8 (L.getD i 0)) (B8 (M.getD i 0))).run Try.prog w = .ok (((L.getD i 0 : Nat) : Int) == ((M.getD i 0 : Nat) : Int)) w := run_equalIn_int w d 5 .u8 .u8 _ _ Try.underlying5
    have hb : (((L.getD i 0 : Nat) : Int) == ((M.getD i 0 : Nat) : Int)) = (L.getD i 0 == M.getD i 0) := by
      rw [Bool.eq_iff_iff, beq_iff_eq, beq_iff_eq]; omega
    rw [hb] at he
    simp only [Op.eqItems, Sem.run_bind, hp, he, Result.andThen_ok, List.all_cons]
    cases L.getD i 0 == M.getD i 0
    · simp
    · simpa using ih
theorem eq_id (L M : List Nat) (hl : L.length = 32) (hm : M.length = 32) (w : World) : (Op.equalIn 10000 24 (.agg (arrO L)) (.agg (arrO M))).run Try.prog w = .ok (decide (L = M)) w := by
  obtain ⟨i8, hi8, hz80, hz81, hz82⟩ := info_parts info8
  have hc : Try.prog.cellsOf 5 = 1 := by kernel_rfl
  have h1 := run_equalIn_array w 9999 (arrO L) (arrO M) Try.underlying24 hi8
  have h2 := eqItems_bytes L M 9998 w (List.range 32) (fun i hi => List.mem_range.1 hi)
  rw [hc] at h1
  refine (h1.trans h2).trans (congrArg (fun b => Result.ok b w) ?_)
  rw [Bool.eq_iff_iff, List.all_eq_true, decide_eq_true_iff]
  constructor
  · intro h
    refine List.ext_getElem (by omega) fun i h1 h2 => ?_
    have h3 := beq_iff_eq.1 (h i (List.mem_range.2 (by omega)))
    rwa [List.getD_eq_getElem?_getD, List.getD_eq_getElem?_getD, List.getElem?_eq_getElem h1, List.getElem?_eq_getElem h2] at h3
  · rintro rfl i _
    exact beq_iff_eq.2 rfl
theorem eqGuardI : Try.prog.eqGuardType Try.prog.depth 24 = false := by kernel_rfl
theorem run_eql_id (op : Oper) (L M : List Nat) (hl : L.length = 32) (hm : M.length = 32) (ρ : Operand → Value) (x y : Operand) (t : TypeId) (ho : op.op = .binOp .eql 24 x y t) (hx : ρ x = .agg (arrO L)) (hy : ρ y = .agg (arrO M)) (w : World) : (execOp ρ op).run Try.prog w = .ok (.value (.bool (decide (L = M)))) w := by
  have h1 : (eqGuard .eql 24 x y (.agg (arrO L)) (.agg (arrO M))).run Try.prog w = .ok () w := run_eqGuard_agg w .eql 24 x y (arrO L) (arrO M) eqGuardI
  have h2 : (binOp .eql 24 (.agg (arrO L)) (.agg (arrO M))).run Try.prog w = .ok (.bool (decide (L = M))) w := by
    rw [run_eql_struct, eq_id L M hl hm w]; rfl
  unfold execOp
  simp only [ho, hx, hy, Sem.run_bind, h1, Result.andThen_ok, h2, Sem.run_pure]
theorem run_neq_id (op : Oper) (L M : List Nat) (hl : L.length = 32) (hm : M.length = 32) (ρ : Operand → Value) (x y : Operand) (t : TypeId) (ho : op.op = .binOp .neq 24 x y t) (hx : ρ x = .agg (arrO L)) (hy : ρ y = .agg (arrO M)) (w : World) : (execOp ρ op).run Try.prog w = .ok (.value (.bool (!decide (L = M)))) w := by
  have h1 : (eqGuard .neq 24 x y (.agg (arrO L)) (.agg (arrO M))).run Try.prog w = .ok () w := run_eqGuard_agg w .neq 24 x y (arrO L) (arrO M) eqGuardI
  have h2 : (binOp .neq 24 (.agg (arrO L)) (.agg (arrO M))).run Try.prog w = .ok (.bool (!decide (L = M))) w := by
    rw [run_neq_struct, eq_id L M hl hm w]; rfl
  unfold execOp
  simp only [ho, hx, hy, Sem.run_bind, h1, Result.andThen_ok, h2, Sem.run_pure]
theorem run_no_id (op : Oper) (ρ : Operand → Value) (w : World) (ho : op.op = .build 24 #[]) : (execOp ρ op).run Try.prog w = .ok (.value (.agg (arrO noId))) w := by
  have h1 : (Instr.build 24 #[]).run Try.prog w = .ok (.agg (arrO noId)) w := by kernel_rfl
  unfold execOp
  simp only [ho, List.map_toArray, List.map_nil, Sem.run_bind, h1, Result.andThen_ok, Sem.run_pure]
/-- A name is read out of memory. -/
theorem load_id {w : World} {a : Act} {o : Oper} {g : Nat} (off : Nat) {L : List Nat} (x : Operand) (ho : o.op = .load 24 x) (hx : a.eval x = .pointer (some ⟨g, off, none⟩)) (hc : ∀ i, i < 32 → w.cell? ⟨g, off + i, none⟩ = some (arrF L i)) : (execOp a.eval o).run Try.prog w = .ok (.value (.agg (arrO L))) w :=
  exec_load_agg 24 x ho g off hx _ Try.underlying24 rfl 32 sizeI (arrF L) hc
/-- An array of 32 bytes, as a row's cells. -/
def gL (P : List Nat) : List Value := (List.range 32).map (arrF P)
theorem gL_len (P : List Nat) : (gL P).length = 32 := by simp [gL]
theorem gL_one (P : List Nat) : ∀ u ∈ gL P, u.oneCell' = true := fun u hu => by
  obtain ⟨i, _, rfl⟩ := List.mem_map.1 hu
  rfl
theorem gL_get (P : List Nat) (i : Nat) (hi : i < 32) : (gL P)[i]? = some (arrF P i) := by simp [gL, hi]
/-- Cells of a row of names. -/
theorem ids_cell {w : World} {ok : Nat → Prop} {g o : Nat} {ids : List (List Nat)} (h : ∀ j u, (ids.flatMap gL)[j]? = some u → w.cell? ⟨g, o + j, none⟩ = some u) (k : Nat) (hk : k < ids.length) : ∀ i, i < 32 → w.cell? ⟨g, o + k * 32 + i, none⟩ = some (arrF ids[k] i) := fun i hi => by
  rw [Nat.add_assoc]
  refine h (k * 32 + i) _ ?_
  rw [flat_at (size := 32) ids (fun a _ => gL_len a) k i hk hi, gL_get _ _ hi]
section
open Go.ChangeShapes Go.WideShapes Go.Deep
variable {H : Type} {enc : TypeId × Value → H} {w : World} {held : Bool}
/-- Cells that hold 32 bytes. -/
def IdR (cs : List Value) (L : List Nat) : Prop := cs = gL L ∧ (∀ x ∈ L, x ≤ 255) ∧ L.length = 32
theorem opens_id : Opens enc Try.prog w held 24 IdR := fun k cs y h => by
  have hC : Try.prog.cellsOf 24 = 32 := by kernel_rfl
  have hC1 : Try.prog.cellsOf 5 = 1 := by kernel_rfl
  obtain ⟨l, hcl, hl, hat⟩ := Opens.array (enc := enc) (P := Try.prog) (w := w) (held := held) (n := 32) Try.underlying24 (Opens.int Try.underlying5) _ _ _ h
  rw [hC] at hcl
  have hcell : ∀ i (hi : i < l.length), cs[i]? = some (.int .u8 l[i]) ∧ (Lit.int .u8 l[i]).wf = true := fun i hi => by
    obtain ⟨h1, h2⟩ := hat i hi
    rw [hC1, Nat.mul_one] at h1
    refine ⟨?_, h2⟩
    have h3 := congrArg (·[0]?) h1
    simpa using h3
  have hz : ∀ z ∈ l, 0 ≤ z ∧ z ≤ 255 := fun z hz => by
    obtain ⟨i, hi, rfl⟩ := List.getElem_of_mem hz
    exact wf8 (hcell i hi).2
  refine ⟨l.map Int.toNat, ?_, fun x hx => ?_, by rw [List.length_map, hl]⟩
  · apply List.ext_getElem?
    intro i
    by_cases hi : i < 32
    · have hil : i < l.length := by rw [hl]; exact hi
      rw [(hcell i hil).1, gL_get _ _ hi]
      have h4 := hz _ (List.getElem_mem hil)
      have h5 : (l.map Int.toNat).getD i 0 = l[i].toNat := by rw [List.getD_eq_getElem?_getD, List.getElem?_map, List.getElem?_eq_getElem hil]; rfl
      unfold arrF B8
      rw [h5, Int.toNat_of_nonneg h4.1]
    · rw [List.getElem?_eq_none (by omega), List.getElem?_eq_none (by rw [gL_len]; omega)]
  · obtain ⟨z, hz', rfl⟩ := List.mem_map.1 hx
    have := hz z hz'
    omega
end
end Go.Proofs.Ytffenfhbiapefaa
