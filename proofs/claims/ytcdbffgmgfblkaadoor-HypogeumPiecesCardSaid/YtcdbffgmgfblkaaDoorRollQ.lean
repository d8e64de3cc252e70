/- The walks through Push on nil, Sum, Clear and none; what the window holds. -/
import Derived.Test.YtcdbffgmgfblkaaDoorRollP
import Derived.Test.YtcdbffgmgfblkaaDoorZer
namespace Go.Proofs.YtcdbffgmgfblkaaDoor
set_option linter.unusedVariables false
set_option linter.unusedSimpArgs false
open Go.RowKit

set_option maxHeartbeats 400000 in
theorem push_nil (A : Option Addr) (n c : Nat) (w : World) : Calls Tryd.prog 57 #[.pointer none, .slice A n c] w fun e w' => e = .returned (.int .u64 0) ∧ w = w' := by
  go_enter Tryd.func57, Tryd.ntmps57
  go_wp2
  go_ret
  exact ⟨rfl, rfl⟩
set_option maxHeartbeats 400000 in
theorem clear_nil (w : World) : Calls Tryd.prog 58 #[.pointer none] w fun e w' => e = .returned (.tuple #[]) ∧ w = w' := by
  go_enter Tryd.func58, Tryd.ntmps58
  go_wp2
  go_end0
  exact ⟨rfl, rfl⟩
/-- clear of a row that is all a block. -/
theorem exec_clear {P : Program} {w : World} {o : Oper} {a : Act} (x : Operand) (t : TypeId) (ho : o.op = .call { callee := .builtin .clear, args := #[x], argTypes := #[t] }) (e : TypeId) (ht : P.underlying t = some (.slice e)) (i : TypeInfo) (z : Value) (hi : P.info? e = some i) (hz : i.zero = some z) (hzc : z.cells = #[z]) (h1 : z.oneCell' = true)
    (g n c : Nat) (hx : a.eval x = .slice (some ⟨g, 0, none⟩) n c) (hn : 0 < n) (f : Nat → Value) (hr : w.rowIs g e n f) :
    ∃ w', (execOp a.eval o).run P w = .ok (.value (.tuple #[])) w' ∧ w'.rowIs g e n (fun _ => z) ∧ Put g w w' := by
  obtain ⟨cur, hh, hcur, hf⟩ := hr
  have hst := run_storeCells_at P g 0 e (List.replicate n z) 0 cur w hh (by rw [List.length_replicate]; omega) (fun u hu => by rw [List.eq_of_mem_replicate hu]; exact h1)
  simp only [Nat.add_zero] at hst
  refine ⟨_, ?_, ⟨_, setRow_heap w g cur _ e (0, 0) hh, ?_, ?_⟩, Put.of_setRow w g (cur.toList.take 0 ++ List.replicate n z ++ cur.toList.drop (0 + (List.replicate n z).length)).toArray⟩
  · have hzl : (Builtin.zeroCells z.cells n).toList = List.replicate n z := by rw [hzc, zeroCells_one]
    have hn' : n ≠ 0 := by omega
    obtain ⟨n', rfl⟩ : ∃ n', n = n' + 1 := ⟨n - 1, by omega⟩
    simp [execOp, ho, resolve, invoke, builtin, hx, Builtin.clear_, run_underlying ht, zeroValue, typeInfo, hi, hz, hzl, Result.andThen] at hst ⊢
    try rw [hst]
  · simp; omega
  · intro i hi
    rw [List.getElem?_toArray, List.take_zero, List.nil_append, List.getElem?_append_left (by rw [List.length_replicate]; exact hi), List.getElem?_replicate, if_pos hi]
theorem wpList_clear {P : Program} {w : World} {ops : Array Oper} {rest : List Oper} {o : Oper} {a : Act} {K : Exit → Act → World → Prop} (hgd : o.guard = none) (x : Operand) (t : TypeId) (ho : o.op = .call { callee := .builtin .clear, args := #[x], argTypes := #[t] }) (e : TypeId) (ht : P.underlying t = some (.slice e)) (i : TypeInfo) (z : Value) (hi : P.info? e = some i) (hz : i.zero = some z) (hzc : z.cells = #[z]) (h1 : z.oneCell' = true)
    (g n c : Nat) (hx : a.eval x = .slice (some ⟨g, 0, none⟩) n c) (hn : 0 < n) (f : Nat → Value) (hr : w.rowIs g e n f)
    (h : ∀ w', w'.rowIs g e n (fun _ => z) → Put g w w' → wpList P ops K rest (a.put o.dst (.tuple #[])) w') : wpList P ops K (o :: rest) a w := by
  obtain ⟨w', hrun, hr', hp⟩ := exec_clear (P := P) (w := w) (o := o) (a := a) x t ho e ht i z hi hz hzc h1 g n c hx hn f hr
  exact wpList_val hgd hrun (h w' hr' hp)

/-- The struct with another sum. -/
theorem row_sum {w : World} {r m N lb at_ y : Nat} (h : w.rowIs r 106 517 (rollF m N 256 lb at_ y)) (y' : Nat) : (w.setCell ⟨r, 516, none⟩ (.int .u64 (y' : Int))).rowIs r 106 517 (rollF m N 256 lb at_ y') := rowSum_set ⟨y, h⟩ y'

set_option maxHeartbeats 2000000 in
set_option maxRecDepth 100000 in
theorem clear_ok (m N r lb : Nat) (W : List Nat) (w : World) (hm0 : m ≠ 0) (hN1 : 1 ≤ N) (hh : RollHas w r lb m N W) :
    Calls Tryd.prog 58 #[.pointer (some ⟨r, 0, none⟩)] w fun e w' => e = .returned (.tuple #[]) ∧ RollHas w' r lb m N (List.replicate N 0) ∧ Only (Own2 r lb) w w' := by
  obtain ⟨i0, hi, hz0, hz1, hz2⟩ := info_parts info8
  obtain ⟨hfar, at_, ring, hat, h1, h2, _⟩ := hh
  have hn : 0 < N := by omega
  have c1 := h1.cell (i := 514) (by omega)
  rw [rollF_514] at c1
  go_enter Tryd.func58, Tryd.ntmps58
  go_wp2_with (refine wpList_clear rfl (.tmp 7) 22 rfl 5 Tryd.underlying22 i0 _ hi hz0 rfl rfl lb N N rfl hn _ h2 ?_; intro w1 hr2 hp1; have hr1 := hp1.row h1 hfar.symm; have c2 := hr1.cell (i := 516) (by omega); have c3 := hr1.frozen 516; rw [rollF_516] at c2)
  go_end0
  refine ⟨rfl, ⟨hfar, at_, fun _ => 0, hat, ?_, ?_, by simp, fun x hx => by have := List.eq_of_mem_replicate hx; omega, fun _ => Nat.zero_le _, fun j hj => ?_⟩, ?_⟩
  · rw [roll_zeros0 m hm0]; exact row_sum hr1 0
  · exact hr2.setOther (a := ⟨r, 516, none⟩) hfar _
  · rw [List.getD_eq_getElem?_getD, List.getElem?_replicate, if_pos hj]; rfl
  · exact ((Only.refl _ w).put hp1 (.inr rfl)).setCell (p := ⟨r, 516, none⟩) (.inl rfl) _

/-- The window behind i + 1 bytes, from zeros: the last ones. -/
theorem roll_zeros_then (m : Nat) (hm : m ≠ 0) (k : Nat) (l : List Nat) : Pol.roll m 0 (List.replicate k 0 ++ l) = Pol.roll m 0 l := by
  rw [Pol.roll_append, roll_zeros0 m hm]
theorem slide_zeros (m : Nat) (hm : m ≠ 0) (N : Nat) (hN : 1 ≤ N) (l : List Nat) : Pol.roll m 0 (slide (List.replicate N 0) l) = Pol.roll m 0 (l.drop (l.length - N)) := by
  rw [slide_eq _ _ (by rw [Ne, List.replicate_eq_nil_iff]; omega), List.drop_append, List.length_replicate, List.drop_replicate, roll_zeros_then m hm]
end Go.Proofs.YtcdbffgmgfblkaaDoor
