/- copy into a row that is known whole; an array's element by its number. -/
import Derived.Test.YtcdbffgmgfblkaaDoorStep
import Derived.Laws.CopyRow
namespace Go.Proofs.YtcdbffgmgfblkaaDoor
set_option linter.unusedVariables false
set_option linter.unusedSimpArgs false
open Go.RowKit

section
variable {P : Program} {w : World} {ops : Array Oper} {rest : List Oper} {o : Oper} {a : Act} {K : Exit → Act → World → Prop}
theorem wpList_copy_in (hgd : o.guard = none) (d s : Operand) (dT sT : TypeId) (ho : o.op = .call { callee := .builtin .copy, args := #[d, s], argTypes := #[dT, sT] }) (elem : TypeId) (hu : P.underlying dT = some (.slice elem)) (hsz : (P.info? elem).map (·.size) = some 1)
    (g off dLen dCap : Nat) (ad : Addr) (sLen sCap : Nat) (hd : a.eval d = .slice (some ⟨g, off, none⟩) dLen dCap) (hs : a.eval s = .slice (some ad) sLen sCap)
    (cur : Array Value) (t : TypeId) (hg : w.heap[g]? = some (.cells cur t (0, 0))) (cs : List Value) (hn : cs.length = Nat.min sLen dLen) (hsrc : ∀ j v, cs[j]? = some v → w.cell? (ad.add j) = some v) (hfit : off + cs.length ≤ cur.size) (h1 : ∀ v ∈ cs, v.oneCell' = true)
    (h : ∀ w', w'.heap[g]? = some (.cells (cur.toList.take off ++ cs ++ cur.toList.drop (off + cs.length)).toArray t (0, 0)) → Put g w w' → wpList P ops K rest (a.put o.dst (goInt cs.length)) w') : wpList P ops K (o :: rest) a w := by
  refine wpList_plain hgd fun K' hK => ?_
  have hr := run_copy_row (P := P) w dT sT o.type elem g off dLen dCap ad sLen sCap cur t cs hu hsz hg hn hsrc hfit h1
  unfold Oper.wp execOp
  simp only [ho, resolve, invoke, builtin, Sem.run_bind, Sem.run_pure, Result.andThen_ok, List.map_toArray, List.map_cons, List.map_nil, hd, hs, hr]
  exact hK _ _ (h _ (setRow_heap w g cur _ t (0, 0) hg) (Put.of_setRow _ _ _))
end
/-- An element of an array's value. -/
theorem run_index_agg {P : Program} (t e : TypeId) (n : Nat) (ht : P.underlying t = some (.array n e)) (he : ∀ w, (isAgg e).run P w = .ok false w) (i : TypeInfo) (hi : P.info? e = some i) (hs : i.size = 1) (v : Value) (f : Nat → Value) (hv : AggIs v n f) (k : IntKind) (j : Nat) (hj : j < n) (w : World) :
    (Instr.index t v (.int k (j : Int))).run P w = .ok (f j) w := by
  obtain ⟨cs, rfl, h1, h2⟩ := hv
  have h3 := h2 j hj
  have hlt : j < cs.size := by omega
  simp [Instr.index, asIntOf, run_underlying ht, size_run hi, hs, hj, part, he, h3, Sem.run_bind, Result.andThen]
end Go.Proofs.YtcdbffgmgfblkaaDoor
