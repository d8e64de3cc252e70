/- The walks through the document's In: Num, Raw, Text, End. -/
import Derived.Test.YtffenfhbiapefaaGlyP
import Derived.Test.YtffenfhbiapefaaSto
import Derived.Test.YtffenfhbiapefaaStrC
import Derived.Test.YtffenfhbiapefaaNck
namespace Go.Proofs.Ytffenfhbiapefaa
set_option linter.unusedVariables false
set_option linter.unusedSimpArgs false
open Go.RowKit

theorem run_index_strB {P : Program} (t : TypeId) (h : P.underlying t = some .string) (L : List Nat) (hb : ∀ x ∈ L, x ≤ 255) (k : IntKind) (i : Nat) (hi : i < L.length) (w : World) : (Instr.index t (.string (strB L)) (.int k (i : Int))).run P w = .ok (.int .u8 ((L.getD i 0 : Nat) : Int)) w := by
  have hs : (strB L).size = L.length := strB_size L
  rw [run_index_string w t (strB L) k i h, dif_pos ⟨by omega, by omega⟩]
  have h1 : ((strB L)[(i : Int).toNat]'(by omega)).toNat = L.getD i 0 := by
    have e : (strB L)[(i : Int).toNat]'(by omega) = (L.map UInt8.ofNat)[i]'(by rw [List.length_map]; exact hi) := rfl
    rw [e, List.getElem_map, List.getD_eq_getElem?_getD, List.getElem?_eq_getElem hi]
    have := hb _ (List.getElem_mem hi)
    simp only [UInt8.toNat_ofNat', Option.getD_some]
    omega
  rw [h1]
theorem strB_extract (L : List Nat) (i j : Nat) : (strB L).extract i j = strB ((L.take j).drop i) := by
  apply ByteArray.ext
  simp only [strB, ByteArray.data_extract]
  apply Array.toList_inj.1
  simp [List.map_take, List.map_drop, List.extract_eq_take_drop, List.take_drop]
  by_cases h : i ≤ j
  · rw [show i + (j - i) = j by omega]
  · rw [List.drop_of_length_le (by rw [List.length_take]; omega), List.drop_of_length_le (by rw [List.length_take]; omega)]
theorem exec_str_from {o : Oper} {a : Act} (x lo : Operand) (ho : o.op = .slice 9 x (some lo) none none) {L : List Nat} (hx : a.eval x = .string (strB L)) {k : IntKind} {i : Nat} (hl : a.eval lo = .int k (i : Int)) (hi : i ≤ L.length) (w : World) : (execOp a.eval o).run Try.prog w = .ok (.value (.string (strB (L.drop i)))) w := by
  have h1 : (Instr.sliceAt 9 (.string (strB L)) (some (.int k (i : Int))) none none).run Try.prog w = .ok (.string (strB (L.drop i))) w := by
    rw [run_sliceAt_string w _ _ _ _ _ Try.underlying9, run_slice_string_from_if w _ _ _ _ Try.underlying9, if_pos ⟨by omega, by rw [strB_size]; omega⟩, strB_extract, strB_size]
    simp
  unfold execOp
  simp only [ho, hx, hl, Option.map, Sem.run_bind, h1, Result.andThen_ok, Sem.run_pure]
theorem exec_str_fromM {o : Oper} {a : Act} (x lo : Operand) (ho : o.op = .slice 9 x (some lo) none none) {L : List Nat} (hx : a.eval x = .string (strB L)) {k : IntKind} {i : Nat} (hl : a.eval lo = .int k (i : Int)) (hi : i ≤ L.length) {M : List Nat} (hM : L.drop i = M) (w : World) : (execOp a.eval o).run Try.prog w = .ok (.value (.string (strB M))) w := by
  subst hM; exact exec_str_from x lo ho hx hl hi w
theorem exec_str_to {o : Oper} {a : Act} (x hi : Operand) (ho : o.op = .slice 9 x none (some hi) none) {L : List Nat} (hx : a.eval x = .string (strB L)) {k : IntKind} {i : Nat} (hl : a.eval hi = .int k (i : Int)) (hle : i ≤ L.length) (w : World) : (execOp a.eval o).run Try.prog w = .ok (.value (.string (strB (L.take i)))) w := by
  have h1 : (Instr.sliceAt 9 (.string (strB L)) none (some (.int k (i : Int))) none).run Try.prog w = .ok (.string (strB (L.take i))) w := by
    rw [run_sliceAt_string w _ _ _ _ _ Try.underlying9, run_slice_string_to_if w _ _ _ _ Try.underlying9, if_pos ⟨by omega, by rw [strB_size]; omega⟩, strB_extract]
    simp
  unfold execOp
  simp only [ho, hx, hl, Option.map, Sem.run_bind, h1, Result.andThen_ok, Sem.run_pure]
theorem exec_str_at {o : Oper} {a : Act} (x ix : Operand) (ho : o.op = .index 9 x ix) {L : List Nat} (hb : ∀ x ∈ L, x ≤ 255) (hx : a.eval x = .string (strB L)) {k : IntKind} {i : Nat} (hl : a.eval ix = .int k (i : Int)) (hi : i < L.length) {y : Nat} (hy : L.getD i 0 = y) (w : World) : (execOp a.eval o).run Try.prog w = .ok (.value (.int .u8 (y : Int))) w := by
  subst hy
  have h1 := run_index_strB (P := Try.prog) 9 Try.underlying9 L hb k i hi w
  unfold execOp
  simp only [ho, hx, hl, Sem.run_bind, h1, Result.andThen_ok, Sem.run_pure]
/-- The document's In in block g: the bytes L are left, the error is e. -/
structure RHas (w : World) (g e : Nat) (L : List Nat) : Prop where
  row : w.rowIs g 74 2 (fun i => if i = 0 then .string (strB L) else .int .i64 (e : Int))
  byte : ∀ x ∈ L, x ≤ 255
  len : L.length ≤ 140737488355328
section
variable {w w' : World} {g e e' : Nat} {L M : List Nat}
theorem RHas.lt (h : RHas w g e L) : g < w.heap.size := h.row.lt
theorem RHas.only {S : Nat → Prop} (h : RHas w g e L) (ho : Only S w w') (hg : ¬ S g) : RHas w' g e L := ⟨ho.row h.row hg, h.byte, h.len⟩
theorem RHas.q (h : RHas w g e L) (hq : Q w w') : RHas w' g e L := h.only (S := fun _ => False) (Only.of_q hq) id
theorem RHas.c0 (h : RHas w g e L) : w.cell? ⟨g, 0, none⟩ = some (.string (strB L)) := h.row.cell (i := 0) (by omega)
theorem RHas.c1 (h : RHas w g e L) : w.cell? ⟨g, 1, none⟩ = some (.int .i64 (e : Int)) := h.row.cell (i := 1) (by omega)
theorem RHas.err (h : RHas w g e L) {z : Int} (hz : z = (e' : Int)) (hr : w'.rowIs g 74 2 (fun i => if i = 1 then .int .i64 z else if i = 0 then .string (strB L) else .int .i64 (e : Int))) : RHas w' g e' L :=
  ⟨hr.congr fun i hi => by
    subst hz
    match i, hi with
    | 0, _ => rfl
    | 1, _ => rfl, h.byte, h.len⟩
theorem RHas.put (h : RHas w g e L) (hb : ∀ x ∈ M, x ≤ 255) (hl : M.length ≤ 140737488355328) (hr : w'.rowIs g 74 2 (fun i => if i = 0 then .string (strB M) else if i = 0 then .string (strB L) else .int .i64 (e : Int))) : RHas w' g e M :=
  ⟨hr.congr fun i hi => by
    match i, hi with
    | 0, _ => rfl
    | 1, _ => rfl, hb, hl⟩
end
def RDone (w : World) (g : Nat) (r : Value) (s : Nat × List Nat) (e_ : Ending) (w' : World) : Prop := e_ = .returned r ∧ RHas w' g s.1 s.2 ∧ Only (fun k => k = g) w w'
theorem sizeE1 : (Try.prog.info? 31).map (·.size) = some 1 := by kernel_rfl
theorem sizeT1 : (Try.prog.info? 9).map (·.size) = some 1 := by kernel_rfl
set_option maxHeartbeats 16000000 in
set_option maxRecDepth 100000 in
theorem rraw_in (g e : Nat) (L : List Nat) (w : World) (n : Int) (h : RHas w g e L) :
    Calls Try.prog 53 #[.pointer (some ⟨g, 0, none⟩), .int .i64 n] w (RDone w g (.string (strB (rawRd n (e, L)).1)) (rawRd n (e, L)).2) := by
  have c0 := h.c0
  have c1 := h.c1
  have HH := Lib.hid h
  have hsz := strB_size L
  have hlen := h.len
  unfold rawRd
  simp only
  clear h
  by_cases he : e = 0
  · subst he
    rw [if_pos rfl]
    by_cases hn : n < 0
    · rw [if_pos hn]
      go_enter Try.func53, Try.ntmps53
      go_wp2_with (first
        | ((with_reducible refine gate0 rfl ?_); go_loud (refine wpList_store_one rfl 31 (.tmp 15) _ rfl g 1 rfl (.int .i64 1) rfl sizeE1 rfl rfl 74 2 _ HH.out.row (by omega) ?_; intro w2 hr2 hp2; have HR2 := Lib.hid (And.intro (HH.out.err (e' := 1) rfl hr2) ((Only.refl (fun k => k = g) w).put hp2 rfl)); clear hr2 hp2)))
      go_ret
      exact ⟨rfl, HR2.out.1, HR2.out.2⟩
    · rw [if_neg hn]
      obtain ⟨m, rfl⟩ : ∃ m : Nat, n = (m : Int) := ⟨n.toNat, by omega⟩
      have hneg : ¬ ((m : Int) < 0) := by omega
      clear hn
      by_cases hm : L.length < m
      · rw [if_pos (by omega)]
        have hgt : ((strB L).size : Int) < m := by rw [hsz]; omega
        go_enter Try.func53, Try.ntmps53
        go_wp2_with (first
          | ((with_reducible refine gate0 rfl ?_); go_loud (refine wpList_store_one rfl 31 (.tmp 25) _ rfl g 1 rfl (.int .i64 3) rfl sizeE1 rfl rfl 74 2 _ HH.out.row (by omega) ?_; intro w2 hr2 hp2; have HR2 := Lib.hid (And.intro (HH.out.err (e' := 3) rfl hr2) ((Only.refl (fun k => k = g) w).put hp2 rfl)); clear hr2 hp2)))
        go_ret
        exact ⟨rfl, HR2.out.1, HR2.out.2⟩
      · rw [if_neg (by omega)]
        have hgt : ¬ (((strB L).size : Int) < m) := by rw [hsz]; omega
        have HML : Hid (m ≤ L.length) := Lib.hid (by omega)
        rw [Int.toNat_natCast]
        go_enter Try.func53, Try.ntmps53
        go_wp2_with (first
          | ((with_reducible refine gate 31 rfl ?_); go_loud (refine wpList_val rfl (exec_str_to (.tmp 29) (.tmp 30) rfl rfl rfl HML.out _) ?_))
          | ((with_reducible refine gate 38 rfl ?_); go_loud (refine wpList_val rfl (exec_str_from (.tmp 36) (.tmp 37) rfl rfl rfl HML.out _) ?_))
          | ((with_reducible refine gate0 rfl ?_); go_loud (refine wpList_store_one rfl 9 (.tmp 40) (.tmp 38) rfl g 0 rfl _ rfl sizeT1 rfl rfl 74 2 _ HH.out.row (by omega) ?_; intro w2 hr2 hp2; have HR2 := Lib.hid (And.intro (HH.out.put (fun x hx => HH.out.byte x (List.mem_of_mem_drop hx)) (by rw [List.length_drop]; have := HH.out.len; omega) hr2) ((Only.refl (fun k => k = g) w).put hp2 rfl)); clear hr2 hp2)))
        go_ret
        exact ⟨rfl, HR2.out.1, HR2.out.2⟩
  · rw [if_neg he]
    have hne : ((e : Int) == 0) = false := beq_eq_false_iff_ne.2 (by omega)
    go_enter Try.func53, Try.ntmps53
    go_wp2_with fail
    go_ret
    exact ⟨rfl, HH.out, Only.refl _ _⟩
theorem top_iff {k n x : Nat} (hk : k < 9) (hn : n < 128 ^ k) (hx : x < 128) : 4611686018427387904 ≤ n + x * 128 ^ k ↔ k = 8 ∧ 64 ≤ x := by
  rcases (show k = 0 ∨ k = 1 ∨ k = 2 ∨ k = 3 ∨ k = 4 ∨ k = 5 ∨ k = 6 ∨ k = 7 ∨ k = 8 by omega) with rfl | rfl | rfl | rfl | rfl | rfl | rfl | rfl | rfl <;> simp at hn ⊢ <;> omega
theorem pow_bound {k : Nat} (hk : k < 9) : 1 ≤ 128 ^ k ∧ 128 ^ k ≤ 72057594037927936 := by
  rcases (show k = 0 ∨ k = 1 ∨ k = 2 ∨ k = 3 ∨ k = 4 ∨ k = 5 ∨ k = 6 ∨ k = 7 ∨ k = 8 by omega) with rfl | rfl | rfl | rfl | rfl | rfl | rfl | rfl | rfl <;> simp
set_option maxHeartbeats 16000000 in
set_option maxRecDepth 100000 in
theorem rnum_in (g e : Nat) (L : List Nat) (w : World) (limit : Int) (h : RHas w g e L) (hl : -9223372036854775808 ≤ limit ∧ limit ≤ 9223372036854775807) :
    Calls Try.prog 39 #[.pointer (some ⟨g, 0, none⟩), .int .i64 limit] w (RDone w g (.int .i64 ((numRd limit (e, L)).1 : Int)) (numRd limit (e, L)).2) := by
  have c0 := h.c0
  have c1 := h.c1
  have HH := Lib.hid h
  have hsz := strB_size L
  have hlen := h.len
  clear h
  by_cases he : e = 0
  · subst he
    obtain ⟨v, r, hvr⟩ : ∃ v r, numRd limit (0, L) = (v, r) := ⟨_, _, rfl⟩
    have HV := Lib.hid hvr
    rw [hvr]
    clear hvr
    have HE : Hid (∀ e' B w', e' ≠ 0 → rdNum limit 0 0 L = (0, e', B) → RHas w' g e' L → Only (fun k => k = g) w w' → RDone w g (.int .i64 (v : Int)) r (.returned (.int .i64 0)) w') := Lib.hid fun e' B w' he hr h1 h2 => by
      have h3 := numRd_bad hr he
      rw [HV.out, Prod.mk.injEq] at h3
      obtain ⟨rfl, rfl⟩ := h3
      exact ⟨rfl, h1, h2⟩
    go_enter Try.func39, Try.ntmps39
    go_wp2_with fail
    go_loopw [5, 6, 7] (fun n f k wr => ∃ kk nn : Nat, kk ≤ 9 ∧ kk ≤ L.length ∧ k = .int .i64 kk ∧ n = .int .i64 nn ∧ f = .int .i64 (IntKind.i64.wrap ((128 ^ kk : Nat) : Int)) ∧ wr = w ∧ Hid (nn < 128 ^ kk ∧ rdNum limit 0 0 L = rdNum limit kk nn (L.drop kk))) (fun _ _ k _ => 9 - (intOf k).toNat)
    case atStart => exact ⟨0, 0, by omega, by omega, rfl, rfl, rfl, rfl, by simp, by simp⟩
    case round =>
      obtain ⟨k, n, hk9, hkl, rfl, rfl, rfl, rfl, HK⟩ := hrel
      by_cases hk : k < 9
      · obtain ⟨hF1, hF2⟩ := pow_bound hk
        obtain ⟨F, hF⟩ : ∃ F, F = 128 ^ k := ⟨_, rfl⟩
        have HF := Lib.hid hF
        rw [← hF] at hF1 hF2
        have hnF : n < F := by rw [hF]; exact HK.out.1
        have hwF : IntKind.i64.wrap ((128 ^ k : Nat) : Int) = (F : Int) := by rw [← hF]; exact IntWalk.i64_in _ (by omega)
        rw [hwF]
        clear hF hwF
        by_cases hlt : k < L.length
        · obtain ⟨x, hx⟩ : ∃ x, x = L[k] := ⟨_, rfl⟩
          have hgd : L.getD k 0 = x := by rw [hx]; simp [List.getD_eq_getElem?_getD, hlt]
          have HGD := Lib.hid hgd
          have hx255 : x ≤ 255 := by rw [hx]; exact HH.out.byte _ (List.getElem_mem hlt)
          have HDR : Hid (L.drop k = x :: L.drop (k + 1)) := Lib.hid (by rw [hx]; exact List.drop_eq_getElem_cons hlt)
          have HLT := Lib.hid hlt
          have hge : ¬ (((strB L).size : Int) ≤ k) := by rw [hsz]; omega
          clear hx hlt hgd
          by_cases hx : 128 ≤ x
          · obtain ⟨P, hP⟩ : ∃ P, P = (x - 128) * F := ⟨_, rfl⟩
            have hPb : P ≤ 127 * F := by rw [hP]; exact Nat.mul_le_mul_right F (by omega)
            have HN : Hid (n + P < 128 ^ (k + 1) ∧ rdNum limit 0 0 L = rdNum limit (k + 1) (n + P) (L.drop (k + 1))) := Lib.hid ⟨by rw [Nat.pow_succ, ← HF.out]; omega, by rw [HK.out.2, HDR.out, rdNum_more limit hk n hx, hP, HF.out]⟩
            have e1 : ((x : Int) - 128) * (F : Int) = (P : Int) := by rw [hP, Int.natCast_mul]; congr 1; omega
            have e2 : (F : Int) * 128 = ((128 ^ (k + 1) : Nat) : Int) := by rw [Nat.pow_succ, ← HF.out, Int.natCast_mul]; rfl
            clear hP
            go_wp2_with (first
              | ((with_reducible refine gate 33 rfl ?_); go_loud (refine wpList_val rfl (exec_str_at (.tmp 31) (.tmp 32) rfl HH.out.byte rfl rfl HLT.out HGD.out _) ?_)))
            go_roundw
            case rel => exact ⟨k + 1, n + P, by omega, HLT.out, by go_num, by rw [Int.natCast_add], by simp [IntKind.wrap_i64, wrap64], trivial, HN.out⟩
            case measure => simp [intOf]; omega
          · have hx1 : x < 128 := by omega
            have HLA := rdNum_last limit hk n hx1 (L.drop (k + 1))
            rw [← HDR.out, ← HK.out.2] at HLA
            have HTP := top_iff hk HK.out.1 hx1
            obtain ⟨P, hP⟩ : ∃ P, P = x * F := ⟨_, rfl⟩
            have hPb : P ≤ 127 * F := by rw [hP]; exact Nat.mul_le_mul_right F (by omega)
            have e1 : (x : Int) * (F : Int) = (P : Int) := by rw [hP, Int.natCast_mul]
            rw [← HF.out, ← hP] at HLA HTP
            have HLA := Lib.hid HLA
            clear hP
            by_cases hz : 0 < k ∧ x = 0
            · have HR := Lib.hid (HLA.out.trans (if_pos (.inl hz)))
              obtain ⟨hz1, rfl⟩ := hz
              clear HTP HLA
              go_wp2_with (first
              | ((with_reducible refine gate 33 rfl ?_); go_loud (refine wpList_val rfl (exec_str_at (.tmp 31) (.tmp 32) rfl HH.out.byte rfl rfl HLT.out HGD.out _) ?_))
              | ((with_reducible refine gate0 rfl ?_); go_loud (refine wpList_store_one rfl 31 (.tmp 61) _ rfl g 1 rfl (.int .i64 2) rfl sizeE1 rfl rfl 74 2 _ HH.out.row (by omega) ?_; intro w2 hr2 hp2; have HR2 := Lib.hid (And.intro (HH.out.err (e' := 2) rfl hr2) ((Only.refl (fun k => k = g) _).put hp2 rfl)); clear hr2 hp2)))
              go_ret
              exact HE.out 2 _ _ (by omega) HR.out HR2.out.1 HR2.out.2
            · by_cases h8 : k = 8 ∧ 64 ≤ x
              · have HR := Lib.hid (HLA.out.trans (if_pos (.inr (HTP.2 h8))))
                obtain ⟨rfl, h64⟩ := h8
                have hx0 : ¬ x = 0 := by omega
                clear HTP HLA hz
                go_wp2_with (first
              | ((with_reducible refine gate 33 rfl ?_); go_loud (refine wpList_val rfl (exec_str_at (.tmp 31) (.tmp 32) rfl HH.out.byte rfl rfl HLT.out HGD.out _) ?_))
              | ((with_reducible refine gate0 rfl ?_); go_loud (refine wpList_store_one rfl 31 (.tmp 61) _ rfl g 1 rfl (.int .i64 2) rfl sizeE1 rfl rfl 74 2 _ HH.out.row (by omega) ?_; intro w2 hr2 hp2; have HR2 := Lib.hid (And.intro (HH.out.err (e' := 2) rfl hr2) ((Only.refl (fun k => k = g) _).put hp2 rfl)); clear hr2 hp2)))
                go_ret
                exact HE.out 2 _ _ (by omega) HR.out HR2.out.1 HR2.out.2
              · have hV : n + P < 4611686018427387904 := by
                  rcases Nat.lt_or_ge (n + P) 4611686018427387904 with h | h
                  · exact h
                  · exact absurd (HTP.1 h) h8
                have HLB := Lib.hid (HLA.out.trans (if_neg (fun h => h.elim hz (fun h => h8 (HTP.1 h)))))
                have hg1 : k = 0 ∨ ¬ x = 0 := by omega
                have hg2 : ¬ k = 8 ∨ x < 64 := by omega
                have hcs : k = 0 ∨ k = 8 ∨ (0 < k ∧ ¬ k = 8) := by omega
                clear HTP HLA hz h8
                by_cases hlim : limit < (n : Int) + P
                · have HR := Lib.hid (HLB.out.trans (if_pos (by omega)))
                  clear HLB
                  rcases hcs with hA | hA | hA
                  · obtain rfl : k = 0 := hA
                    have hLn : ¬ L = [] := fun h => by have := HLT.out; rw [h] at this; simp at this
                    clear hg1 hg2
                    go_wp2_with (first
                    | ((with_reducible refine gate 33 rfl ?_); go_loud (refine wpList_val rfl (exec_str_at (.tmp 31) (.tmp 32) rfl HH.out.byte rfl rfl HLT.out HGD.out _) ?_))
                    | ((with_reducible refine gate 80 rfl ?_); go_loud (refine wpList_val rfl (exec_str_fromM (i := 1) (.tmp 77) (.tmp 79) rfl rfl rfl HLT.out HM.out _) ?_))
                    | ((with_reducible refine gate0 rfl ?_); (refine wpList_store_one rfl 31 (.tmp 72) _ rfl g 1 rfl (.int .i64 4) rfl sizeE1 rfl rfl 74 2 _ HH.out.row (by omega) ?_; intro w2 hr2 hp2; have HR2 := Lib.hid (And.intro (HH.out.err (e' := 4) rfl hr2) ((Only.refl (fun k => k = g) _).put hp2 rfl)); clear hr2 hp2))
                    | ((with_reducible refine gate0 rfl ?_); go_loud (refine wpList_store_one rfl 9 (.tmp 82) (.tmp 80) rfl g 0 rfl _ rfl sizeT1 rfl rfl 74 2 _ HH.out.row (by omega) ?_; intro w2 hr2 hp2; have HR2 := Lib.hid (And.intro (HH.out.put (fun x hx => HH.out.byte x (by rw [← HM.out] at hx; exact List.mem_of_mem_drop hx)) (by rw [← HM.out, List.length_drop]; have := HH.out.len; omega) hr2) ((Only.refl (fun k => k = g) _).put hp2 rfl)); clear hr2 hp2)))
                    go_ret
                    exact HE.out 4 _ _ (by omega) HR.out HR2.out.1 HR2.out.2
                  · obtain rfl : k = 8 := hA
                    have hxb : ((x : Int) == 0) = false := beq_eq_false_iff_ne.2 (by omega)
                    have hx64 : x < 64 := by omega
                    clear hg1 hg2
                    go_wp2_with (first
                    | ((with_reducible refine gate 33 rfl ?_); go_loud (refine wpList_val rfl (exec_str_at (.tmp 31) (.tmp 32) rfl HH.out.byte rfl rfl HLT.out HGD.out _) ?_))
                    | ((with_reducible refine gate 80 rfl ?_); go_loud (refine wpList_val rfl (exec_str_fromM (i := 9) (.tmp 77) (.tmp 79) rfl rfl rfl HLT.out HM.out _) ?_))
                    | ((with_reducible refine gate0 rfl ?_); (refine wpList_store_one rfl 31 (.tmp 72) _ rfl g 1 rfl (.int .i64 4) rfl sizeE1 rfl rfl 74 2 _ HH.out.row (by omega) ?_; intro w2 hr2 hp2; have HR2 := Lib.hid (And.intro (HH.out.err (e' := 4) rfl hr2) ((Only.refl (fun k => k = g) _).put hp2 rfl)); clear hr2 hp2))
                    | ((with_reducible refine gate0 rfl ?_); go_loud (refine wpList_store_one rfl 9 (.tmp 82) (.tmp 80) rfl g 0 rfl _ rfl sizeT1 rfl rfl 74 2 _ HH.out.row (by omega) ?_; intro w2 hr2 hp2; have HR2 := Lib.hid (And.intro (HH.out.put (fun x hx => HH.out.byte x (by rw [← HM.out] at hx; exact List.mem_of_mem_drop hx)) (by rw [← HM.out, List.length_drop]; have := HH.out.len; omega) hr2) ((Only.refl (fun k => k = g) _).put hp2 rfl)); clear hr2 hp2)))
                    go_ret
                    exact HE.out 4 _ _ (by omega) HR.out HR2.out.1 HR2.out.2
                  · have hxb : ((x : Int) == 0) = false := beq_eq_false_iff_ne.2 (by omega)
                    have hkb : ((k : Int) == 8) = false := beq_eq_false_iff_ne.2 (by omega)
                    have hkp : 0 < k := by omega
                    clear hg1 hg2
                    go_wp2_with (first
                    | ((with_reducible refine gate 33 rfl ?_); go_loud (refine wpList_val rfl (exec_str_at (.tmp 31) (.tmp 32) rfl HH.out.byte rfl rfl HLT.out HGD.out _) ?_))
                    | ((with_reducible refine gate 80 rfl ?_); go_loud (refine wpList_val rfl (exec_str_fromM (i := k + 1) (.tmp 77) (.tmp 79) rfl rfl rfl HLT.out HM.out _) ?_))
                    | ((with_reducible refine gate0 rfl ?_); (refine wpList_store_one rfl 31 (.tmp 72) _ rfl g 1 rfl (.int .i64 4) rfl sizeE1 rfl rfl 74 2 _ HH.out.row (by omega) ?_; intro w2 hr2 hp2; have HR2 := Lib.hid (And.intro (HH.out.err (e' := 4) rfl hr2) ((Only.refl (fun k => k = g) _).put hp2 rfl)); clear hr2 hp2))
                    | ((with_reducible refine gate0 rfl ?_); go_loud (refine wpList_store_one rfl 9 (.tmp 82) (.tmp 80) rfl g 0 rfl _ rfl sizeT1 rfl rfl 74 2 _ HH.out.row (by omega) ?_; intro w2 hr2 hp2; have HR2 := Lib.hid (And.intro (HH.out.put (fun x hx => HH.out.byte x (by rw [← HM.out] at hx; exact List.mem_of_mem_drop hx)) (by rw [← HM.out, List.length_drop]; have := HH.out.len; omega) hr2) ((Only.refl (fun k => k = g) _).put hp2 rfl)); clear hr2 hp2)))
                    go_ret
                    exact HE.out 4 _ _ (by omega) HR.out HR2.out.1 HR2.out.2
                · have HR := Lib.hid (HLB.out.trans (if_neg (by omega)))
                  clear HLB
                  obtain ⟨M, hM⟩ : ∃ M, L.drop (k + 1) = M := ⟨_, rfl⟩
                  have HOK : Hid (v = n + P ∧ r = (0, M)) := Lib.hid (by
                    rw [← hM]
                    have h3 := numRd_ok HR.out
                    rw [HV.out, Prod.mk.injEq] at h3
                    exact h3)
                  have HM := Lib.hid hM
                  clear hM
                  have HVP : Hid ((v : Int) = (n : Int) + P) := Lib.hid (by rw [HOK.out.1]; omega)
                  rcases hcs with hA | hA | hA
                  · obtain rfl : k = 0 := hA
                    have hLn : ¬ L = [] := fun h => by have := HLT.out; rw [h] at this; simp at this
                    clear hg1 hg2
                    go_wp2_with (first
                    | ((with_reducible refine gate 33 rfl ?_); go_loud (refine wpList_val rfl (exec_str_at (.tmp 31) (.tmp 32) rfl HH.out.byte rfl rfl HLT.out HGD.out _) ?_))
                    | ((with_reducible refine gate 80 rfl ?_); go_loud (refine wpList_val rfl (exec_str_fromM (i := 1) (.tmp 77) (.tmp 79) rfl rfl rfl HLT.out HM.out _) ?_))
                    | ((with_reducible refine gate0 rfl ?_); (refine wpList_store_one rfl 31 (.tmp 72) _ rfl g 1 rfl (.int .i64 4) rfl sizeE1 rfl rfl 74 2 _ HH.out.row (by omega) ?_; intro w2 hr2 hp2; have HR2 := Lib.hid (And.intro (HH.out.err (e' := 4) rfl hr2) ((Only.refl (fun k => k = g) _).put hp2 rfl)); clear hr2 hp2))
                    | ((with_reducible refine gate0 rfl ?_); go_loud (refine wpList_store_one rfl 9 (.tmp 82) (.tmp 80) rfl g 0 rfl _ rfl sizeT1 rfl rfl 74 2 _ HH.out.row (by omega) ?_; intro w2 hr2 hp2; have HR2 := Lib.hid (And.intro (HH.out.put (fun x hx => HH.out.byte x (by rw [← HM.out] at hx; exact List.mem_of_mem_drop hx)) (by rw [← HM.out, List.length_drop]; have := HH.out.len; omega) hr2) ((Only.refl (fun k => k = g) _).put hp2 rfl)); clear hr2 hp2)))
                    go_ret
                    exact ⟨by rw [HVP.out]; rfl, by rw [HOK.out.2]; exact HR2.out.1, HR2.out.2⟩
                  · obtain rfl : k = 8 := hA
                    have hxb : ((x : Int) == 0) = false := beq_eq_false_iff_ne.2 (by omega)
                    have hx64 : x < 64 := by omega
                    clear hg1 hg2
                    go_wp2_with (first
                    | ((with_reducible refine gate 33 rfl ?_); go_loud (refine wpList_val rfl (exec_str_at (.tmp 31) (.tmp 32) rfl HH.out.byte rfl rfl HLT.out HGD.out _) ?_))
                    | ((with_reducible refine gate 80 rfl ?_); go_loud (refine wpList_val rfl (exec_str_fromM (i := 9) (.tmp 77) (.tmp 79) rfl rfl rfl HLT.out HM.out _) ?_))
                    | ((with_reducible refine gate0 rfl ?_); (refine wpList_store_one rfl 31 (.tmp 72) _ rfl g 1 rfl (.int .i64 4) rfl sizeE1 rfl rfl 74 2 _ HH.out.row (by omega) ?_; intro w2 hr2 hp2; have HR2 := Lib.hid (And.intro (HH.out.err (e' := 4) rfl hr2) ((Only.refl (fun k => k = g) _).put hp2 rfl)); clear hr2 hp2))
                    | ((with_reducible refine gate0 rfl ?_); go_loud (refine wpList_store_one rfl 9 (.tmp 82) (.tmp 80) rfl g 0 rfl _ rfl sizeT1 rfl rfl 74 2 _ HH.out.row (by omega) ?_; intro w2 hr2 hp2; have HR2 := Lib.hid (And.intro (HH.out.put (fun x hx => HH.out.byte x (by rw [← HM.out] at hx; exact List.mem_of_mem_drop hx)) (by rw [← HM.out, List.length_drop]; have := HH.out.len; omega) hr2) ((Only.refl (fun k => k = g) _).put hp2 rfl)); clear hr2 hp2)))
                    go_ret
                    exact ⟨by rw [HVP.out]; rfl, by rw [HOK.out.2]; exact HR2.out.1, HR2.out.2⟩
                  · have hxb : ((x : Int) == 0) = false := beq_eq_false_iff_ne.2 (by omega)
                    have hkb : ((k : Int) == 8) = false := beq_eq_false_iff_ne.2 (by omega)
                    have hkp : 0 < k := by omega
                    clear hg1 hg2
                    go_wp2_with (first
                    | ((with_reducible refine gate 33 rfl ?_); go_loud (refine wpList_val rfl (exec_str_at (.tmp 31) (.tmp 32) rfl HH.out.byte rfl rfl HLT.out HGD.out _) ?_))
                    | ((with_reducible refine gate 80 rfl ?_); go_loud (refine wpList_val rfl (exec_str_fromM (i := k + 1) (.tmp 77) (.tmp 79) rfl rfl rfl HLT.out HM.out _) ?_))
                    | ((with_reducible refine gate0 rfl ?_); (refine wpList_store_one rfl 31 (.tmp 72) _ rfl g 1 rfl (.int .i64 4) rfl sizeE1 rfl rfl 74 2 _ HH.out.row (by omega) ?_; intro w2 hr2 hp2; have HR2 := Lib.hid (And.intro (HH.out.err (e' := 4) rfl hr2) ((Only.refl (fun k => k = g) _).put hp2 rfl)); clear hr2 hp2))
                    | ((with_reducible refine gate0 rfl ?_); go_loud (refine wpList_store_one rfl 9 (.tmp 82) (.tmp 80) rfl g 0 rfl _ rfl sizeT1 rfl rfl 74 2 _ HH.out.row (by omega) ?_; intro w2 hr2 hp2; have HR2 := Lib.hid (And.intro (HH.out.put (fun x hx => HH.out.byte x (by rw [← HM.out] at hx; exact List.mem_of_mem_drop hx)) (by rw [← HM.out, List.length_drop]; have := HH.out.len; omega) hr2) ((Only.refl (fun k => k = g) _).put hp2 rfl)); clear hr2 hp2)))
                    go_ret
                    exact ⟨by rw [HVP.out]; rfl, by rw [HOK.out.2]; exact HR2.out.1, HR2.out.2⟩
        · obtain rfl : k = L.length := by omega
          have hge : ((strB L).size : Int) ≤ L.length := by rw [hsz]; omega
          have hR : rdNum limit 0 0 L = (0, 3, []) := by rw [HK.out.2, List.drop_length]; exact rdNum_nil limit hk n
          have HR := Lib.hid hR
          clear hR
          go_wp2_with (first
            | ((with_reducible refine gate0 rfl ?_); go_loud (refine wpList_store_one rfl 31 (.tmp 27) _ rfl g 1 rfl (.int .i64 3) rfl sizeE1 rfl rfl 74 2 _ HH.out.row (by omega) ?_; intro w2 hr2 hp2; have HR2 := Lib.hid (And.intro (HH.out.err (e' := 3) rfl hr2) ((Only.refl (fun k => k = g) _).put hp2 rfl)); clear hr2 hp2)))
          go_ret
          exact HE.out 3 [] _ (by omega) HR.out HR2.out.1 HR2.out.2
      · obtain rfl : k = 9 := by omega
        have HR : Hid (rdNum limit 0 0 L = (0, 2, L.drop 9)) := Lib.hid (by rw [HK.out.2]; exact rdNum_nine limit (Nat.le_refl _) n _)
        go_wp2_with (first
          | ((with_reducible refine gate0 rfl ?_); go_loud (refine wpList_store_one rfl 31 (.tmp 86) _ rfl g 1 rfl (.int .i64 2) rfl sizeE1 rfl rfl 74 2 _ HH.out.row (by omega) ?_; intro w2 hr2 hp2; have HR2 := Lib.hid (And.intro (HH.out.err (e' := 2) rfl hr2) ((Only.refl (fun k => k = g) _).put hp2 rfl)); clear hr2 hp2)))
        go_ret
        exact HE.out 2 _ _ (by omega) HR.out HR2.out.1 HR2.out.2
  · have h1 : numRd limit (e, L) = (0, (e, L)) := if_neg he
    rw [h1]
    have hne : ((e : Int) == 0) = false := beq_eq_false_iff_ne.2 (by omega)
    go_enter Try.func39, Try.ntmps39
    go_wp2_with fail
    go_ret
    exact ⟨rfl, HH.out, Only.refl _ _⟩
end Go.Proofs.Ytffenfhbiapefaa
