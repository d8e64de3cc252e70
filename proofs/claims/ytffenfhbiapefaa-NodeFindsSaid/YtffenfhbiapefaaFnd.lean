/- The walks through Find and what it calls. -/
import Derived.Test.YtffenfhbiapefaaNor
import Derived.Deep.Upon
namespace Go.Proofs.Ytffenfhbiapefaa
set_option linter.unusedVariables false
set_option linter.unusedSimpArgs false
open Go.RowKit

theorem eqS_dec (a b : ByteArray) : (a.toList == b.toList) = decide (a = b) := by
  rw [Bool.eq_iff_iff, beq_iff_eq, decide_eq_true_iff]
  exact ⟨toList_inj, fun h => by rw [h]⟩
set_option maxHeartbeats 16000000 in
set_option maxRecDepth 100000 in
theorem find1_ok (n : Nd) (A : Option Addr) (pn pc : Nat) (g : Nat) (name : ByteArray) (w : World) (hc : w.cell? ⟨g, 0, none⟩ = some (.string name)) (hg : g < w.heap.size) :
    Calls Try.prog 37 #[.agg (ndC n A pn pc), .pointer (some ⟨g, 0, none⟩)] w fun e w' => e = .returned (.bool (decide (n.name = name))) ∧ Q w w' := by
  have hdec := eqS_dec n.name name
  go_enter Try.func37, Try.ntmps37
  go_wp2_with (first
    | ((with_reducible refine gate 2 rfl ?_); go_loud (refine wpList_box_row rfl 33 (.tmp 0) rfl _ rfl 39 _ (nd_agg n A pn pc) ?_; intro w1 hr1 hx1; have HB := Lib.hid (NodeAt.of_row hr1); have HQ1 := Lib.hid (hx1.q (Q.refl _)); obtain ⟨c0, c1, c2, c3, c4, c5, c6⟩ := nd_cells HB.out; have hc1 := (HQ1.out.cell (p := ⟨g, 0, none⟩) hg).trans hc; clear hr1 hx1 c1 c2 c3 c4 c5 c6)))
  go_ret
  exact ⟨rfl, HQ1.out⟩
/-- The first of a row that has the name. -/
def firstAt (zs : List NdIn) (name : ByteArray) : Nat := (zs.takeWhile fun z => !decide (z.n.name = name)).length
set_option maxHeartbeats 16000000 in
set_option maxRecDepth 100000 in
theorem indexFunc_ok (A0 : Option Addr) (nn nc : Nat) (zs : List NdIn) (g : Nat) (name : ByteArray) (w : World) (hz : zs.length = nn) (hn : nn ≤ 9223372036854775807) (h : NodesAt w A0 zs) (hc : w.cell? ⟨g, 0, none⟩ = some (.string name)) (hg : g < w.heap.size) :
    Calls Try.prog 36 #[.slice A0 nn nc, .func (.func 37) #[] #[.pointer (some ⟨g, 0, none⟩)]] w fun e w' => e = .returned (.int .i64 (if firstAt zs name < nn then (firstAt zs name : Int) else -1)) ∧ Q w w' := by
  have HZ := Lib.hid hz
  have HN := Lib.hid h
  have HC := Lib.hid (And.intro hc hg)
  obtain ⟨r, hr⟩ : ∃ r : Int, r = if firstAt zs name < nn then (firstAt zs name : Int) else -1 := ⟨_, rfl⟩
  rw [← hr]
  have HR := Lib.hid hr
  clear hz h hc hg hr
  go_enter Try.func36, Try.ntmps36
  go_wp2_with fail
  go_loopw [5, 8] (fun _ i wr => ∃ k : Nat, k ≤ nn ∧ i = .int .i64 k ∧ Hid ((∀ j (h : j < k) (h2 : j < zs.length), (!decide (zs[j].n.name = name)) = true) ∧ Q w wr)) (fun _ i _ => nn - (intOf i).toNat)
  case atStart => exact ⟨0, by omega, rfl, fun i h => absurd h (by omega), Q.refl _⟩
  case round =>
    obtain ⟨k, hk, rfl, HK⟩ := hrel
    obtain ⟨wq, hwq⟩ : ∃ w, w = wr := ⟨_, rfl⟩
    subst hwq
    by_cases hlt : k < nn
    · have hkz : k < zs.length := by rw [HZ.out]; exact hlt
      obtain ⟨b, o, e1, hb, hat⟩ := (HN.out.q HK.out.2).at_ k hkz
      have HAT := Lib.hid hat
      have HC1 := Lib.hid (find1_ok zs[k].n zs[k].A zs[k].pn zs[k].pc g name wq ((HK.out.2.cell (p := ⟨g, 0, none⟩) HC.out.2).trans HC.out.1) (Nat.lt_of_lt_of_le HC.out.2 HK.out.2.size))
      obtain ⟨fb, hfb⟩ : ∃ fb, fb = decide (zs[k].n.name = name) := ⟨_, rfl⟩
      have HFB : Hid (∃ h : k < zs.length, decide (zs[k].n.name = name) = fb) := Lib.hid ⟨hkz, hfb.symm⟩
      rw [← hfb] at HC1
      clear hfb hat
      generalize zs[k] = z at *
      obtain ⟨n, A, pn, pc⟩ := z
      subst e1
      cases fb
      · go_wp2_with (first
          | ((with_reducible refine gate 15 rfl ?_); go_loud (refine wpList_val rfl (load_node (.tmp 14) rfl rfl HAT.out) ?_))
          | (go_at_call 37; go_loud ((with_reducible refine (HC1.out).mono ?_); rintro e7 w7 ⟨rfl, hq7⟩; have HQ7 := Lib.hid hq7; clear hq7)))
        go_roundw
        case rel =>
          refine ⟨k + 1, by omega, by go_num, fun i hi h2 => ?_, HK.out.2.step HQ7.out⟩
          rcases Nat.lt_or_ge i k with h | h
          · exact HK.out.1 i h h2
          · obtain rfl : i = k := by omega
            obtain ⟨h1, h3⟩ := HFB.out
            rw [h3]; rfl
        case measure => simp [intOf]; omega
      · have HE : Hid (firstAt zs name = k) := Lib.hid (by
          obtain ⟨h1, h2⟩ := HFB.out
          exact takeWhile_at _ zs k h1 (fun i hi => HK.out.1 i hi (by omega)) (by rw [h2]; rfl))
        go_wp2_with (first
          | ((with_reducible refine gate 15 rfl ?_); go_loud (refine wpList_val rfl (load_node (.tmp 14) rfl rfl HAT.out) ?_))
          | (go_at_call 37; go_loud ((with_reducible refine (HC1.out).mono ?_); rintro e7 w7 ⟨rfl, hq7⟩; have HQ7 := Lib.hid hq7; clear hq7)))
        go_ret
        exact ⟨by rw [HR.out, HE.out, if_pos hlt]; rfl, HK.out.2.step HQ7.out⟩
    · obtain rfl : nn = k := by omega
      have HE : Hid (firstAt zs name = nn) := Lib.hid (by rw [← HZ.out]; exact takeWhile_all _ zs fun i hi => HK.out.1 i (by rw [HZ.out] at hi; exact hi) hi)
      go_wp2_with fail
      go_ret
      exact ⟨by rw [HR.out, HE.out, if_neg (Nat.lt_irrefl _)]; rfl, HK.out.2⟩
theorem nd_eq {n : Nd} {A : Option Addr} {pn pc : Nat} {v : Value} (h : AggIs v 39 (ndF n A pn pc)) : v = .agg (ndC n A pn pc) := by
  obtain ⟨cs, rfl, hs, hg⟩ := h
  congr 1
  refine Array.ext (by rw [hs, ndC_size]) fun i h1 h2 => ?_
  have h3 := hg i (by omega)
  have h4 := ndC_get n A pn pc i (by rw [← ndC_size n A pn pc]; exact h2)
  rw [Array.getElem?_eq_getElem h1] at h3
  have h5 : (ndC n A pn pc)[i]? = some (ndF n A pn pc i) := h4
  rw [Array.getElem?_eq_getElem h2] at h5
  exact Option.some.inj (h3.trans h5.symm)
theorem run_build_zero {op : Oper} {a : Act} (ho : op.op = .build 33 #[]) (w : World) : (execOp a.eval op).run Try.prog w = .ok (.value (.agg (ndC noNd none 0 0))) w := by
  have hr : (Instr.build 33 #[]).run Try.prog w = .ok (.agg (ndC noNd none 0 0)) w := by kernel_rfl
  unfold execOp
  simp only [ho, List.map_toArray, List.map_nil, Sem.run_bind, hr, Result.andThen_ok, Sem.run_pure]
/-- What Find leaves. -/
def FindOut (zs : List NdIn) (name : ByteArray) (e : Ending) : Prop :=
  (∃ h : firstAt zs name < zs.length, e = .returned (.tuple #[.agg (ndC (zs[firstAt zs name]).n (zs[firstAt zs name]).A (zs[firstAt zs name]).pn (zs[firstAt zs name]).pc), .bool true])) ∨
  (zs.length ≤ firstAt zs name ∧ e = .returned (.tuple #[.agg (ndC noNd none 0 0), .bool false]))
set_option maxHeartbeats 16000000 in
set_option maxRecDepth 100000 in
theorem find_ok (A0 : Option Addr) (nn nc : Nat) (zs : List NdIn) (name : ByteArray) (w : World) (hz : zs.length = nn) (hn : nn ≤ 9223372036854775807) (h : NodesAt w A0 zs) :
    Calls Try.prog 22 #[.string name, .slice A0 nn nc] w fun e w' => FindOut zs name e ∧ Q w w' := by
  have HZ := Lib.hid hz
  have HN := Lib.hid h
  clear hz h
  obtain ⟨k, hk⟩ : ∃ k, k = firstAt zs name := ⟨_, rfl⟩
  have HK := Lib.hid hk
  have HIX : Hid (∀ (g : Nat) w', Q w w' → w'.cell? ⟨g, 0, none⟩ = some (.string name) → g < w'.heap.size → Calls Try.prog 36 #[.slice A0 nn nc, .func (.func 37) #[] #[.pointer (some ⟨g, 0, none⟩)]] w' fun e w'' => e = .returned (.int .i64 (if k < nn then (k : Int) else -1)) ∧ Q w' w'') :=
    Lib.hid fun g w' hq hc hg => by rw [HK.out]; exact indexFunc_ok A0 nn nc zs g name w' HZ.out hn (HN.out.q hq) hc hg
  clear hk
  by_cases hlt : k < nn
  · have hkz : k < zs.length := by rw [HZ.out]; exact hlt
    obtain ⟨b, o, e1, hb, hat⟩ := HN.out.at_ k hkz
    have HPO : Hid (FindOut zs name (.returned (.tuple #[.agg (ndC zs[k].n zs[k].A zs[k].pn zs[k].pc), .bool true]))) := Lib.hid (.inl ⟨by rw [← HK.out]; exact hkz, by simp only [← HK.out]⟩)
    rw [if_pos hlt] at HIX
    generalize zs[k] = z at *
    obtain ⟨n, A, pn, pc⟩ := z
    have HAT := Lib.hid hat
    have HB := Lib.hid hb
    clear hat hb HK hkz
    subst e1
    go_enter Try.func22, Try.ntmps22
    go_wp2_with (first
      | ((with_reducible refine gate 4 rfl ?_); go_loud (refine wpList_alloc_row rfl 33 rfl _ (zeroN _) 39 _ (ndC_size _ _ _ _) (ndC_get _ _ _ _) ?_; intro w1 hr1 hx1; have H1 := Lib.hid (And.intro hr1 (hx1.q ((Q.refl w).alloc _))); have hcn : w1.cell? ⟨w.heap.size, 0, none⟩ = some (.string name) := (hx1.q (Q.refl _)).cell (p := ⟨w.heap.size, 0, none⟩) (by simp) |>.trans (one_cell w (.string name) 9 0 _ rfl); have HI := Lib.hid (HIX.out w.heap.size w1 H1.out.2 hcn (Nat.lt_of_lt_of_le (by simp) (hx1.q (Q.refl _)).size)); clear hr1 hx1))
      | (go_at_call 36; go_loud ((with_reducible refine (HI.out).mono ?_); rintro e7 w7 ⟨rfl, hq7⟩; have HQ7 := Lib.hid (H1.out.2.step hq7); have HR7 : Hid (w7.rowIs (w.heap.size + 1) 33 39 (ndF noNd none 0 0)) := Lib.hid (by have := row_q hq7 H1.out.1; simpa using this); have HAT7 := Lib.hid (HAT.out.q HB.out HQ7.out); clear hq7))
      | ((with_reducible refine gate 16 rfl ?_); go_loud (refine wpList_val rfl (load_node (.tmp 15) rfl rfl HAT7.out) ?_))
      | ((with_reducible refine gate0 rfl ?_); go_loud (refine wpList_store_all rfl 33 (.tmp 4) (.tmp 16) rfl (w.heap.size + 1) rfl _ rfl 39 sizeN _ (nd_agg n A pn pc) (fun i _ => ndF_one _ _ _ _ i) 33 _ HR7.out ?_; intro w8 hr8 hp8; have H8 := Lib.hid (And.intro hr8 (hp8.q HQ7.out (Nat.le_succ _))); clear hr8 hp8)))
    refine ret_cell_tmp rfl (w.heap.size + 1) rfl _ Try.underlying33 rfl 39 sizeN (ndF n A pn pc) (row_cells H8.out.1) rfl (fun v hv => ⟨?_, H8.out.2⟩)
    rw [nd_eq hv]
    exact HPO.out
  · have HPO : Hid (FindOut zs name (.returned (.tuple #[.agg (ndC noNd none 0 0), .bool false]))) := Lib.hid (.inr ⟨by rw [← HK.out, HZ.out]; omega, rfl⟩)
    rw [if_neg hlt] at HIX
    clear HK
    go_enter Try.func22, Try.ntmps22
    go_wp2_with (first
      | ((with_reducible refine gate 4 rfl ?_); go_loud (refine wpList_alloc_row rfl 33 rfl _ (zeroN _) 39 _ (ndC_size _ _ _ _) (ndC_get _ _ _ _) ?_; intro w1 hr1 hx1; have H1 := Lib.hid (And.intro hr1 (hx1.q ((Q.refl w).alloc _))); have hcn : w1.cell? ⟨w.heap.size, 0, none⟩ = some (.string name) := (hx1.q (Q.refl _)).cell (p := ⟨w.heap.size, 0, none⟩) (by simp) |>.trans (one_cell w (.string name) 9 0 _ rfl); have HI := Lib.hid (HIX.out w.heap.size w1 H1.out.2 hcn (Nat.lt_of_lt_of_le (by simp) (hx1.q (Q.refl _)).size)); clear hr1 hx1))
      | (go_at_call 36; go_loud ((with_reducible refine (HI.out).mono ?_); rintro e7 w7 ⟨rfl, hq7⟩; have HQ7 := Lib.hid (H1.out.2.step hq7); have HR7 : Hid (w7.rowIs (w.heap.size + 1) 33 39 (ndF noNd none 0 0)) := Lib.hid (by have := row_q hq7 H1.out.1; simpa using this); clear hq7))
      | ((with_reducible refine gate 12 rfl ?_); go_loud (refine wpList_val rfl (run_build_zero rfl _) ?_))
      | ((with_reducible refine gate0 rfl ?_); go_loud (refine wpList_store_all rfl 33 (.tmp 4) (.tmp 12) rfl (w.heap.size + 1) rfl _ rfl 39 sizeN _ (nd_agg noNd none 0 0) (fun i _ => ndF_one _ _ _ _ i) 33 _ HR7.out ?_; intro w8 hr8 hp8; have H8 := Lib.hid (And.intro hr8 (hp8.q HQ7.out (Nat.le_succ _))); clear hr8 hp8)))
    refine ret_cell_tmp rfl (w.heap.size + 1) rfl _ Try.underlying33 rfl 39 sizeN (ndF noNd none 0 0) (row_cells H8.out.1) rfl (fun v hv => ⟨?_, H8.out.2⟩)
    rw [nd_eq hv]
    exact HPO.out
end Go.Proofs.Ytffenfhbiapefaa
