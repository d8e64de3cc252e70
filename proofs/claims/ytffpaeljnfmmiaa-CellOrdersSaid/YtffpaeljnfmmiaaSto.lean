/- A store of one cell into a struct's block. -/
import Derived.Test.YtffpaeljnfmmiaaAgg
namespace Go.Proofs.Ytffpaeljnfmmiaa
set_option linter.unusedVariables false
set_option linter.unusedSimpArgs false
open Go.RowKit
section
variable {P : Program} {w : World} {ops : Array Oper} {rest : List Oper} {o : Oper} {a : Act} {K : Exit → Act → World → Prop}
theorem run_storeVar_one (g off : Nat) (ty t : TypeId) (hi : (P.info? ty).map (·.size) = some 1) (v : Value) (hv : v.cells = #[v]) (h1 : v.oneCell' = true)
    (m : Nat) (f : Nat → Value) (hr : w.rowIs g t m f) (hm : off < m) :
    ∃ w', (storeVar ty ⟨g, off, none⟩ v).run P w = .ok () w' ∧ w'.rowIs g t m (fun i => if i = off then v else f i) ∧ Put g w w' := by
  obtain ⟨w', h2, h3, h4⟩ := run_storeVar_agg (P := P) (w := w) g off ty t 1 hi (.agg #[v]) (fun _ => v) ⟨_, rfl, rfl, fun i hi => by have e : i = 0 := by { omega }; subst e; rfl⟩ (fun _ _ => h1) m f hr (by omega)
  refine ⟨w', ?_, h3.congr fun i hi => ?_, h4⟩
  · rw [← h2]
    unfold storeVar
    rw [hv]
    rfl
  · by_cases h : i = off
    · rw [if_pos h, if_pos (by omega)]
    · rw [if_neg h, if_neg (by omega)]
theorem wpList_store_one (hgd : o.guard = none) (ty : TypeId) (ad x : Operand) (ho : o.op = .store ty ad x) (g off : Nat) (had : a.eval ad = .pointer (some ⟨g, off, none⟩)) (v : Value) (hx : a.eval x = v)
    (hi : (P.info? ty).map (·.size) = some 1) (hv : v.cells = #[v]) (h1 : v.oneCell' = true)
    (t : TypeId) (m : Nat) (f : Nat → Value) (hr : w.rowIs g t m f) (hm : off < m)
    (h : ∀ w', w'.rowIs g t m (fun i => if i = off then v else f i) → Put g w w' → wpList P ops K rest (a.put o.dst undef) w') : wpList P ops K (o :: rest) a w := by
  obtain ⟨w', hrun, hrow, hput⟩ := run_storeVar_one (P := P) (w := w) g off ty t hi v hv h1 m f hr hm
  refine wpList_unit (w' := w') hgd ?_ (h w' hrow hput)
  unfold execOp
  simp only [ho, had, hx, Instr.storeAt, Instr.sureAddr, Sem.run_bind, Sem.run_pure, Result.andThen_ok, hrun]
end
end Go.Proofs.Ytffpaeljnfmmiaa
