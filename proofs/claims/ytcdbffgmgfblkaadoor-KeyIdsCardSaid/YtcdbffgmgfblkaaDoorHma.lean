/- HMAC: the plain words; copy into an array; the walk through sum's Keyed. -/
import Derived.Test.YtcdbffgmgfblkaaDoorShaU
import Derived.Test.YtcdbffgmgfblkaaDoorApd
namespace Go.Proofs.YtcdbffgmgfblkaaDoor
set_option linter.unusedVariables false
set_option linter.unusedSimpArgs false
open Go.RowKit

/-- A key that fits into a block. -/
def keyL (K : List Nat) : List Nat := if K.length ≤ 64 then K else sha K
/-- A key filled up, put together with a byte. -/
def padB (v : Nat) (K : List Nat) : List Nat := (List.range 64).map fun i => K.getD i 0 ^^^ v
/-- A sum by a key. -/
def hmac (K M : List Nat) : List Nat := sha (padB 92 (keyL K) ++ sha (padB 54 (keyL K) ++ M))
theorem padB_len (v : Nat) (K : List Nat) : (padB v K).length = 64 := by simp [padB]
theorem keyL_len (K : List Nat) : (keyL K).length ≤ 64 := by
  unfold keyL
  split
  · assumption
  · rw [sha_len]; omega
theorem keyL_byte {K : List Nat} (h : ∀ x ∈ K, x ≤ 255) : ∀ x ∈ keyL K, x ≤ 255 := by
  unfold keyL
  split
  · exact h
  · exact sha_byte K
theorem getD_byte {K : List Nat} (h : ∀ x ∈ K, x ≤ 255) (i : Nat) : K.getD i 0 ≤ 255 := by
  rw [List.getD_eq_getElem?_getD]
  rcases hx : K[i]? with _ | x
  · simp
  · exact h x (List.mem_of_getElem? hx)
theorem padB_byte {v : Nat} {K : List Nat} (hv : v ≤ 255) (h : ∀ x ∈ K, x ≤ 255) : ∀ x ∈ padB v K, x ≤ 255 := by
  intro x hx
  unfold padB at hx
  obtain ⟨i, _, rfl⟩ := List.mem_map.1 hx
  exact (xor8 (getD_byte h i) hv).2
/-- A row while it is put together with a byte. -/
def padF (v : Nat) (K : List Nat) (k i : Nat) : Value := B8 (if i < k then K.getD i 0 ^^^ v else K.getD i 0)
theorem padF_end (v : Nat) (K : List Nat) {i : Nat} (hi : i < 64) : padF v K 64 i = arrF (padB v K) i := by
  unfold padF arrF padB
  have e : ((List.range 64).map fun i => K.getD i 0 ^^^ v)[i]? = some (K.getD i 0 ^^^ v) := by rw [List.getElem?_map, List.getElem?_range hi]; rfl
  rw [if_pos hi, show ((List.range 64).map fun i => K.getD i 0 ^^^ v).getD i 0 = _ from List.getD_eq_getElem?_getD, e]; rfl

section
variable {P : Program} {w : World} {ops : Array Oper} {rest : List Oper} {o : Oper} {a : Act} {K : Exit → Act → World → Prop}
/-- copy into an array whose cells are known, out of a row that reads. -/
theorem wpList_copy_arr (hgd : o.guard = none) (d s : Operand) (dT sT : TypeId) (ho : o.op = .call { callee := .builtin .copy, args := #[d, s], argTypes := #[dT, sT] }) (elem : TypeId) (hu : P.underlying dT = some (.slice elem)) (hsz : (P.info? elem).map (·.size) = some 1)
    (g N : Nat) (hd : a.eval d = .slice (some ⟨g, 0, none⟩) N N) (A : Option Addr) (n c : Nat) (hs : a.eval s = .slice A n c) (hnN : n ≤ N) (t : TypeId) (f : Nat → Value) (hr : w.rowIs g t N f)
    (ok : Nat → Prop) (L : List Nat) (hl : L.length = n) (hS : SeesP w ok A (L.map B8)) (hA : A = none → c = 0)
    (h : ∀ w', w'.rowIs g t N (fun i => if i < n then arrF L i else f i) → Put g w w' → wpList P ops K rest (a.put o.dst (goInt n)) w') : wpList P ops K (o :: rest) a w := by
  subst hl
  by_cases hL : L = []
  · subst hL
    have e : (Builtin.copy_ #[dT, sT] o.type #[.slice (some ⟨g, 0, none⟩) N N, .slice A 0 c]).run P w = .ok (goInt 0) w := by
      cases hq : P.info? elem with
      | none => simp [hq] at hsz
      | some i => cases A <;> simp [Builtin.copy_, run_underlying hu, Builtin.lenOf, Builtin.firstCells, sizeOf, typeInfo, hq, storeCells, loadCells, loadCellsFrom]
    refine wpList_plain hgd fun K' hK => ?_
    unfold Oper.wp execOp
    simp only [ho, resolve, invoke, builtin, Sem.run_bind, Sem.run_pure, Result.andThen_ok, List.map_toArray, List.map_cons, List.map_nil, hd, hs, List.length_nil, e]
    exact hK _ _ (h w (hr.congr fun i _ => by simp) ⟨rfl, rfl, rfl, rfl, fun _ _ => rfl⟩)
  · obtain ⟨b, o', rfl, _, hc⟩ := hS (by simpa using hL)
    obtain ⟨cur, hh, hcs, hcc⟩ := hr
    refine wpList_copy_in hgd d s dT sT ho elem hu hsz g 0 N N ⟨b, o', none⟩ L.length c hd hs cur t hh (L.map B8) (by rw [List.length_map]; exact (Nat.min_eq_left hnN).symm) (fun j v hj => ?_) (by rw [List.length_map, hcs]; omega) (B8_one L) (fun w' hw' hp => ?_)
    · have := hc j v hj
      rwa [add_addr]
    · rw [List.length_map]
      refine h w' ⟨_, hw', ?_, fun i hi => ?_⟩ hp
      · simp [hcs]; omega
      · rw [List.getElem?_toArray]
        simp only [List.take_zero, List.nil_append, List.length_map, Nat.zero_add]
        by_cases hil : i < L.length
        · rw [List.getElem?_append_left (by rw [List.length_map]; exact hil), if_pos hil, List.getElem?_map, List.getElem?_eq_getElem hil]
          unfold arrF
          rw [List.getD_eq_getElem?_getD, List.getElem?_eq_getElem hil]; rfl
        · rw [List.getElem?_append_right (by rw [List.length_map]; omega), if_neg hil, List.length_map, List.getElem?_drop, Array.getElem?_toList, show L.length + (i - L.length) = i by omega]
          exact hcc i hi
end
end Go.Proofs.YtcdbffgmgfblkaaDoor
