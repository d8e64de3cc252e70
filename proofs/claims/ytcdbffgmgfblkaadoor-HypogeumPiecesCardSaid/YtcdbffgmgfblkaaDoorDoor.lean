/- What the rows' condition (two tables laid) gives a walk; a world that meets it. -/
import Derived.Test.YtcdbffgmgfblkaaDoorRows
import Derived.Test.YtcdbffgmgfblkaaDoorShaO
import Derived.OpenShut
import Derived.FnData
import Derived.LaidLaws
import Derived.Lay
namespace Go.Proofs.YtcdbffgmgfblkaaDoor
set_option linter.unusedVariables false
set_option linter.unusedSimpArgs false
open Go.RowKit Go.ChangeShapes Go.WideShapes

abbrev doorLaid : List (String × DataW Unit) := [("hypogeum/sum.begin", Rows.laid_hypogeum_sum_begin), ("hypogeum/sum.steps", Rows.laid_hypogeum_sum_steps)]
theorem door_plain (w : World) : laidMetH Tryd.prog doorLaid w = laidMet Tryd.prog doorLaid w := rfl
theorem words_of_trod {H : Type} {enc : TypeId × Value → H} {P : Program} {w : World} {base : Nat} {spare : Nat → Bool} {held : Bool} {fuel : Nat} {t e n : Nat} {cs : List Value} {L : List Int} {p : List MemPlace} (ht : P.underlying t = some (.array n e)) (he : P.underlying e = some (.int .u32)) (hc : P.cellsOf e = 1) (hn : P.cellsOf t = n) (hl : L.length = n)
    (h : DataW.trod enc P w base spare held fuel t cs = some (.agg (L.map fun z => .lit (.int .u32 z)), p)) : cs = L.map fun z => .int .u32 z := by
  obtain ⟨xs, m, rfl, hx, hlen, hxl, hat⟩ := DataW.trod_array ht h
  rw [hn] at hlen
  apply List.ext_getElem
  · rw [List.length_map]; omega
  intro i h1 h2
  have hi : i < n := by omega
  have ha := hat i hi
  rw [hc, Nat.mul_one, List.getElem?_eq_getElem (by omega)] at ha
  have hd : (cs.drop i).take 1 = [cs[i]] := by
    rw [List.drop_eq_getElem_cons h1]; rfl
  rw [hd] at ha
  obtain ⟨z, hz, hxz, _⟩ := DataW.trod_int he ha
  have hz : cs[i] = .int .u32 z := by simpa using hz
  injection hx with hx _
  injection hx with hx
  have hxi : (xs.map (·.1))[i]? = (L.map fun z => DataW.lit (H := H) (.int .u32 z))[i]? := by rw [hx]
  rw [List.getElem?_map, List.getElem?_map, List.getElem?_eq_getElem (by omega), List.getElem?_eq_getElem (by omega)] at hxi
  simp [hxz] at hxi
  rw [hz, List.getElem_map, hxi]
theorem door_begin : Tryd.prog.globalNamed "hypogeum/sum.begin" = some 0 := by kernel_rfl
theorem door_steps : Tryd.prog.globalNamed "hypogeum/sum.steps" = some 1 := by kernel_rfl
theorem door_bt : (Tryd.prog.globals[0]?).map (·.type) = some 81 := by kernel_rfl
theorem door_st : (Tryd.prog.globals[1]?).map (·.type) = some 109 := by kernel_rfl
theorem begin_words : (Rows.laid_hypogeum_sum_begin : DataW Unit) = .agg ((h256.l.map u32v).map fun z => .lit (.int .u32 z)) := by kernel_rfl
theorem steps_words : (Rows.laid_hypogeum_sum_steps : DataW Unit) = .agg ((K256.map u32v).map fun z => .lit (.int .u32 z)) := by kernel_rfl
theorem glob_of_laid {w : World} (h : laidMetH Tryd.prog doorLaid w) : Glob w := by
  have h : laidMet Tryd.prog doorLaid w := h
  obtain ⟨ps, hl, _, _⟩ := h
  obtain ⟨g, t, cs, fuel, p, q, hg, ht, hvar, hd, hl2, _⟩ := hl
  obtain ⟨g2, t2, cs2, fuel2, p2, q2, hg2, ht2, hvar2, hd2, _, _⟩ := hl2
  obtain rfl := Option.some.inj (door_begin.symm.trans hg)
  obtain rfl := Option.some.inj (door_bt.symm.trans ht)
  obtain rfl := Option.some.inj (door_steps.symm.trans hg2)
  obtain rfl := Option.some.inj (door_st.symm.trans ht2)
  rw [begin_words] at hd
  rw [steps_words] at hd2
  have e1 := words_of_trod Tryd.underlying81 Tryd.underlying77 (by kernel_rfl) (by kernel_rfl) rfl hd
  have e2 := words_of_trod Tryd.underlying109 Tryd.underlying77 (by kernel_rfl) (by kernel_rfl) rfl hd2
  have hst : Steps w := fun i hi => by
    rw [World.var?_cell hg2 hvar2 i, ← Array.getElem?_toList, e2, List.getElem?_map, List.getElem?_map, List.getElem?_eq_getElem hi]
    rw [List.getD_eq_getElem?_getD, List.getElem?_eq_getElem hi]; rfl
  refine ⟨hst, fun i hi => ?_, World.block_lt_of_cell? w _ (hst 0 (by omega))⟩
  rw [World.var?_cell hg hvar i, ← Array.getElem?_toList, e1, List.getElem?_map, List.getElem?_map, List.getElem?_eq_getElem hi]
  rw [List.getD_eq_getElem?_getD, List.getElem?_eq_getElem hi]; rfl
theorem door_world (os : Os) (args : Array Value) : laidMetH Tryd.prog doorLaid ((World.laidAll Tryd.prog os doorLaid).forCall (fun _ _ => 0) ⟨#[], args, []⟩).memory :=
  laidMet_laidAll args (by kernel_rfl) (by kernel_rfl)
end Go.Proofs.YtcdbffgmgfblkaaDoor
