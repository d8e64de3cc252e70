/- SumTexts: the plain law. -/
import Derived.Test.YtcdbffgmgfblkaaDoorHtc
namespace Go.Proofs.YtcdbffgmgfblkaaDoor
set_option linter.unusedVariables false
set_option linter.unusedSimpArgs false
open Go.RowKit

theorem dg_un : ∀ v, v < 16 → ud (dg v) = some v := by decide +kernel
theorem un_dg {c : Nat} (hc : c ≤ 255) (h : isDig c = true) : dg (un c) = c := by
  have hall : ∀ c, c < 256 → isDig c = true → dg (un c) = c := by decide +kernel
  exact hall c (by omega) h
theorem hexL_at : ∀ (L : List Nat) (j : Nat), j < L.length → (hexL L)[2 * j]? = some (dg (L.getD j 0 / 16)) ∧ (hexL L)[2 * j + 1]? = some (dg (L.getD j 0 % 16))
  | [], j, h => by simp at h
  | x :: L, 0, _ => by simp [hexL]
  | x :: L, j + 1, h => by
    have ih := hexL_at L j (by simpa using h)
    have e : hexL (x :: L) = dg (x / 16) :: dg (x % 16) :: hexL L := rfl
    rw [e, show 2 * (j + 1) = 2 * j + 1 + 1 by omega, show 2 * j + 1 + 1 + 1 = (2 * j + 1) + 1 + 1 by omega, List.getElem?_cons_succ, List.getElem?_cons_succ, List.getElem?_cons_succ, List.getElem?_cons_succ, List.getD_cons_succ]
    exact ih
theorem hexL_getD (L : List Nat) {j : Nat} (h : j < L.length) : (hexL L).getD (2 * j) 0 = dg (L.getD j 0 / 16) ∧ (hexL L).getD (2 * j + 1) 0 = dg (L.getD j 0 % 16) := by
  obtain ⟨h1, h2⟩ := hexL_at L j h
  exact ⟨by rw [List.getD_eq_getElem?_getD, h1]; rfl, by rw [List.getD_eq_getElem?_getD, h2]; rfl⟩
theorem hexL_dig {L : List Nat} (hb : ∀ x ∈ L, x ≤ 255) : (hexL L).all isDig = true := by
  rw [List.all_eq_true]
  intro y hy
  obtain ⟨x, hx, hy⟩ := List.mem_flatMap.1 hy
  have := hb x hx
  simp only [List.mem_cons, List.not_mem_nil, or_false] at hy
  unfold isDig
  rcases hy with rfl | rfl
  · rw [dg_un _ (by omega)]; rfl
  · rw [dg_un _ (by omega)]; rfl
theorem rd_hex {L : List Nat} (hb : ∀ x ∈ L, x ≤ 255) (hl : L.length = 32) : rdOk (hexL L) = true ∧ rdL (hexL L) = L := by
  have h1 : rdOk (hexL L) = true := by unfold rdOk; rw [hexL_dig hb, hexL_len, hl]; rfl
  refine ⟨h1, ?_⟩
  unfold rdL
  rw [if_pos h1]
  refine List.ext_getElem? fun j => ?_
  by_cases hj : j < 32
  · unfold rdV
    rw [List.getElem?_map, List.getElem?_range hj]
    obtain ⟨e1, e2⟩ := hexL_getD L (j := j) (by omega)
    have hx := getD_byte hb j
    have g : L[j]? = some (L.getD j 0) := by rw [List.getD_eq_getElem?_getD, List.getElem?_eq_getElem (by omega)]; rfl
    rw [g]
    simp only [Option.map_some, e1, e2, un]
    rw [dg_un _ (by omega), dg_un _ (by omega)]
    simp only [Option.getD_some]
    congr 1
    omega
  · rw [List.getElem?_eq_none (by rw [rdV_len]; omega), List.getElem?_eq_none (by omega)]
theorem hex_rd {S : List Nat} (hb : ∀ x ∈ S, x ≤ 255) (h : rdOk S = true) : hexL (rdL S) = S := by
  have h0 := h
  unfold rdOk at h
  rw [Bool.and_eq_true, beq_iff_eq, List.all_eq_true] at h
  obtain ⟨hl, hd⟩ := h
  unfold rdL
  rw [if_pos h0]
  have hdg : ∀ i, i < 64 → dg (un (S.getD i 0)) = S.getD i 0 := fun i hi => by
    refine un_dg (getD_byte hb i) (hd _ ?_)
    rw [List.getD_eq_getElem?_getD, List.getElem?_eq_getElem (by omega)]; exact List.getElem_mem (by omega)
  have hv : ∀ j, j < 32 → (rdV S).getD j 0 = 16 * un (S.getD (2 * j) 0) + un (S.getD (2 * j + 1) 0) := fun j hj => by
    rw [List.getD_eq_getElem?_getD]; unfold rdV; rw [List.getElem?_map, List.getElem?_range hj]; rfl
  refine List.ext_getElem? fun i => ?_
  by_cases hi : i < 64
  · obtain ⟨e1, e2⟩ := hexL_at (rdV S) (i / 2) (by rw [rdV_len]; omega)
    rw [hv (i / 2) (by omega)] at e1 e2
    have u1 := un_lt (S.getD (2 * (i / 2)) 0)
    have u2 := un_lt (S.getD (2 * (i / 2) + 1) 0)
    have g : S[i]? = some (S.getD i 0) := by rw [List.getD_eq_getElem?_getD, List.getElem?_eq_getElem (by omega)]; rfl
    rw [g]
    by_cases hp : i % 2 = 0
    · rw [show 2 * (i / 2) = i by omega] at e1 u1 u2
      rw [e1, ← hdg i hi]
      congr 2
      rw [hdg i hi]
      omega
    · rw [show 2 * (i / 2) + 1 = i by omega] at e2 u2
      rw [e2, ← hdg i hi]
      congr 2
      rw [hdg i hi]
      omega
  · rw [List.getElem?_eq_none (by rw [hexL_len, rdV_len]; omega), List.getElem?_eq_none (by omega)]
theorem rd_bad {S : List Nat} (h : rdOk S = false) : arrO (rdL S) = zer32 := by unfold rdL; rw [if_neg (by rw [h]; exact Bool.false_ne_true), zer32_arr]
theorem run_neq_same (op : Oper) (L : List Nat) (hl : L.length = 32) (ρ : Operand → Value) (x y : Operand) (t : TypeId) (ho : op.op = .binOp .neq 28 x y t) (hx : ρ x = .agg (arrO L)) (hy : ρ y = .agg (arrO L)) (w : World) : (execOp ρ op).run Tryd.prog w = .ok (.value (.bool false)) w := by
  have h1 : (eqGuard .neq 28 x y (.agg (arrO L)) (.agg (arrO L))).run Tryd.prog w = .ok () w := run_eqGuard_agg w .neq 28 x y (arrO L) (arrO L) eqGuard32
  have h2 : (binOp .neq 28 (.agg (arrO L)) (.agg (arrO L))).run Tryd.prog w = .ok (.bool false) w := by
    rw [run_neq_struct, eq_same L hl w]; rfl
  unfold execOp
  simp only [ho, hx, hy, Sem.run_bind, h1, Result.andThen_ok, h2, Sem.run_pure]
end Go.Proofs.YtcdbffgmgfblkaaDoor
