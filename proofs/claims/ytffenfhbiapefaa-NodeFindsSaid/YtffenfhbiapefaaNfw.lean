/- The walks through few and from: rows of nodes that share their lists with what came in. -/
import Derived.Test.YtffenfhbiapefaaNch
import Derived.Deep.DeepCutAuto
namespace Go.Proofs.Ytffenfhbiapefaa
set_option linter.unusedVariables false
set_option linter.unusedSimpArgs false
open Go.RowKit

/-- A row of nodes, made since world w0; their lists lie where they lay. -/
structure RowN (w0 w : World) (e : TypeId) (v : Value) (zs : List NdIn) : Prop where
  own : w.ownsRow w0.heap.size e 39 v zs.length (ndsL zs)
  q : Q w0 w
theorem RowN.begin_ (w0 : World) (e : TypeId) : RowN w0 w0 e (.slice none 0 0) [] := ⟨World.ownsRow_nil _ _ _ _, Q.refl _⟩
theorem RowN.step {w0 w w' : World} {e : TypeId} {v : Value} {zs : List NdIn} (h : RowN w0 w e v zs) (hq : Q w w') : RowN w0 w' e v zs := ⟨own_q h.own hq, h.q.step hq⟩
theorem RowN.push {w0 w w' : World} {e : TypeId} {v v' : Value} {zs : List NdIn} {z : NdIn} (h : RowN w0 w e v zs) (hg : Grew w w' v v') (hown : w'.ownsRow w0.heap.size e 39 v' (zs.length + 1) (ndsL zs ++ ndL z.n z.A z.pn z.pc)) : RowN w0 w' e v' (zs ++ [z]) :=
  ⟨by simpa [ndsL] using hown, hg.q h.q h.own⟩
theorem RowN.nodesAt {w0 w : World} {e : TypeId} {v : Value} {zs : List NdIn} (h : RowN w0 w e v zs) (hp : ∀ z ∈ zs, SeesP w0 (· < w0.heap.size) z.A (z.n.ids.flatMap gL)) (hf : ∀ z ∈ zs, Fits z) : ∃ A c, v = .slice A zs.length c ∧ NodesAt w A zs := by
  have h1 := h.own
  obtain ⟨A, c, rfl⟩ := own_form h1
  exact ⟨A, c, rfl, (own_seesS h1).more fun b hb => hb.2, fun z hz => SeesP.on (hp z hz) h.q, hf⟩
def fewP (z : NdIn) : Bool := decide (z.pn ≤ 300) && decide (z.n.target.size < 10000)
def fewL (zs : List NdIn) : List NdIn := (zs.take 60).filter fewP
set_option maxHeartbeats 16000000 in
set_option maxRecDepth 100000 in
theorem few_ok (A0 : Option Addr) (nn nc : Nat) (zs : List NdIn) (w0 : World) (hz : zs.length = nn) (hn : nn ≤ 9223372036854775807) (h : NodesAt w0 A0 zs) :
    Calls Try.prog 16 #[.slice A0 nn nc] w0 fun e w' => ∃ v, e = .returned v ∧ Hid (RowN w0 w' 26 v (fewL zs)) := by
  obtain ⟨iN, hiN, hzN0, hzN1, hzN2⟩ := info_parts infoR
  have HZ := Lib.hid hz
  have HN := Lib.hid h
  clear hz h
  go_enter Try.func16, Try.ntmps16
  go_wp2_with fail
  go_loopw [3, 4] (fun v i wr => ∃ k : Nat, k ≤ nn ∧ k ≤ 60 ∧ i = .int .i64 k ∧ Hid (RowN w0 wr 26 v (fewL (zs.take k)))) (fun _ i _ => 60 - (intOf i).toNat)
  case atStart => exact ⟨0, by omega, by omega, rfl, RowN.begin_ _ _⟩
  case round =>
    obtain ⟨k, hk, hk60, rfl, HM⟩ := hrel
    obtain ⟨wq, hwq⟩ : ∃ w, w = wr := ⟨_, rfl⟩
    subst hwq
    by_cases hlt : k < nn
    · by_cases h60 : k < 60
      · have hkz : k < zs.length := by rw [HZ.out]; exact hlt
        obtain ⟨b, o, e1, hb, hat⟩ := (HN.out.q HM.out.q).at_ k hkz
        have hfit := HN.out.fit zs[k] (List.getElem_mem hkz)
        have HTK : Hid (fewL (zs.take (k + 1)) = fewL (zs.take k) ++ if fewP zs[k] then [zs[k]] else []) := Lib.hid (by
          unfold fewL
          rw [List.take_take, List.take_take, Nat.min_eq_right (by omega), Nat.min_eq_right (by omega), List.take_succ_eq_append_getElem hkz, List.filter_append]
          congr 1
          cases h : fewP zs[k] <;> simp [h])
        have HLE : Hid ((fewL (zs.take k)).length ≤ 60) := Lib.hid (by
          unfold fewL
          have h1 := List.length_filter_le fewP ((zs.take k).take 60)
          have h2 := List.length_take_le 60 (zs.take k)
          omega)
        generalize zs[k] = z at *
        generalize fewL (zs.take k) = ys at *
        obtain ⟨n, A, pn, pc⟩ := z
        have hsz := hfit.1.target
        have hpn := hfit.2.1
        simp only at hsz hpn hat
        have HAT := Lib.hid hat
        have c5 := hat.target
        have c6 := hat.parts
        clear hfit hkz hat
        subst e1
        by_cases hp : pn ≤ 300
        · by_cases ht : n.target.size < 10000
          · have HP : Hid (fewP ⟨n, A, pn, pc⟩ = true) := Lib.hid (by unfold fewP; simp [hp, ht])
            go_wp2_with (first
              | ((with_reducible refine gate 35 rfl ?_); go_loud (refine wpList_val rfl (load_rnode (.tmp 34) rfl rfl HAT.out) ?_))
              | ((with_reducible refine gate 36 rfl ?_); go_loud (refine wpList_val rfl (run_row_rnode (.tmp 35) rfl n A pn pc rfl _) ?_))
              | ((with_reducible refine gate 37 rfl ?_); go_loud (refine wpList_append_agg rfl (.tmp 31) (.tmp 36) 29 rfl w0.heap.size 26 iN _ 39 120 Try.underlying29 hiN hzN0 hzN1 hzN2 rfl (by omega) _ ys.length (ndsL ys) rfl HM.out.own (ndL n A pn pc) _ _ rfl rfl (ndL_len _ _ _ _) (ndL_one _ _ _ _) (by have := HLE.out; unfold maxLen; omega) (by have := HLE.out; omega) HM.out.q.size ?_; intro v7 w7 hown7 hgr7 _; have HM7 := Lib.hid (HM.out.push (z := ⟨n, A, pn, pc⟩) hgr7 hown7); clear hown7 hgr7)))
            go_roundw
            case rel => exact ⟨k + 1, by omega, by omega, by go_num, by rw [HTK.out, HP.out]; exact HM7.out⟩
            case measure => simp [intOf]; omega
          · have HP : Hid (fewP ⟨n, A, pn, pc⟩ = false) := Lib.hid (by unfold fewP; simp [ht])
            go_wp2_with fail
            go_roundw
            case rel => exact ⟨k + 1, by omega, by omega, by go_num, by rw [HTK.out, HP.out]; exact Lib.hid (by simpa using HM.out)⟩
            case measure => simp [intOf]; omega
        · have HP : Hid (fewP ⟨n, A, pn, pc⟩ = false) := Lib.hid (by unfold fewP; simp [hp])
          go_wp2_with fail
          go_roundw
          case rel => exact ⟨k + 1, by omega, by omega, by go_num, by rw [HTK.out, HP.out]; exact Lib.hid (by simpa using HM.out)⟩
          case measure => simp [intOf]; omega
      · obtain rfl : k = 60 := by omega
        have HR : Hid (fewL (zs.take 60) = fewL zs) := Lib.hid (by unfold fewL; rw [List.take_take, Nat.min_self])
        go_wp2_with fail
        go_ret
        exact ⟨_, rfl, by rw [← HR.out]; exact HM.out⟩
    · obtain rfl : nn = k := by omega
      have HR : Hid (fewL (zs.take nn) = fewL zs) := Lib.hid (by rw [List.take_of_length_le (by rw [HZ.out]; exact Nat.le_refl _)])
      go_wp2_with fail
      go_ret
      exact ⟨_, rfl, by rw [← HR.out]; exact HM.out⟩
set_option maxHeartbeats 16000000 in
set_option maxRecDepth 100000 in
theorem from_ok (A0 : Option Addr) (nn nc : Nat) (zs : List NdIn) (w0 : World) (hz : zs.length = nn) (hn : nn ≤ 10000) (h : NodesAt w0 A0 zs) :
    Calls Try.prog 20 #[.slice A0 nn nc] w0 fun e w' => ∃ v, e = .returned v ∧ Hid (RowN w0 w' 26 v zs) := by
  obtain ⟨iN, hiN, hzN0, hzN1, hzN2⟩ := info_parts infoR
  have HZ := Lib.hid hz
  have HN := Lib.hid h
  clear hz h
  go_enter Try.func20, Try.ntmps20
  go_wp2_with fail
  go_loopw [3, 4] (fun v i wr => ∃ k : Nat, k ≤ nn ∧ i = .int .i64 k ∧ Hid (RowN w0 wr 26 v (zs.take k))) (fun _ i _ => nn - (intOf i).toNat)
  case atStart => exact ⟨0, by omega, rfl, RowN.begin_ _ _⟩
  case round =>
    obtain ⟨k, hk, rfl, HM⟩ := hrel
    obtain ⟨wq, hwq⟩ : ∃ w, w = wr := ⟨_, rfl⟩
    subst hwq
    by_cases hlt : k < nn
    · have hkz : k < zs.length := by rw [HZ.out]; exact hlt
      obtain ⟨b, o, e1, hb, hat⟩ := (HN.out.q HM.out.q).at_ k hkz
      have HTK : Hid (zs.take (k + 1) = zs.take k ++ [zs[k]]) := Lib.hid (List.take_succ_eq_append_getElem hkz)
      have HLE : Hid ((zs.take k).length = k) := Lib.hid (by rw [List.length_take]; omega)
      generalize zs[k] = z at *
      generalize zs.take k = ys at *
      obtain ⟨n, A, pn, pc⟩ := z
      simp only at hat
      have HAT := Lib.hid hat
      clear hkz hat
      subst e1
      go_wp2_with (first
        | ((with_reducible refine gate 15 rfl ?_); go_loud (refine wpList_val rfl (load_node (.tmp 14) rfl rfl HAT.out) ?_))
        | ((with_reducible refine gate 5 rfl ?_); go_loud (refine wpList_alloc_row rfl 33 rfl _ (zeroN _) 39 _ (ndC_size _ _ _ _) (ndC_get _ _ _ _) ?_; intro w1 hr1 hx1; have H1 := Lib.hid (And.intro hr1 (hx1.q (Q.refl _))); clear hr1 hx1))
        | ((with_reducible refine gate0 rfl ?_); go_loud (refine wpList_store_all rfl 33 (.tmp 5) (.tmp 15) rfl wq.heap.size rfl _ rfl 39 sizeN _ (nd_agg n A pn pc) (fun i _ => ndF_one _ _ _ _ i) 33 _ H1.out.1 ?_; intro wr2 hr2 hp2; have HB := Lib.hid (NodeAt.of_row hr2); have HM2 := Lib.hid (HM.out.step (hp2.q H1.out.2 (Nat.le_refl _))); obtain ⟨c0, c1, c2, c3, c4, c5, c6⟩ := nd_cells HB.out; clear hr2 hp2))
        | ((with_reducible refine gate 32 rfl ?_); go_loud (refine wpList_val rfl (load_id 7 (.tmp 31) rfl rfl HB.out.tree) ?_))
        | ((with_reducible refine gate 33 rfl ?_); go_loud (refine wpList_val rfl (run_build_rnode n A pn pc (.tmp 18) (.tmp 20) (.tmp 22) (.tmp 24) (.tmp 26) (.tmp 28) (.tmp 30) (.tmp 32) rfl rfl rfl rfl rfl rfl rfl rfl rfl _) ?_))
        | ((with_reducible refine gate 34 rfl ?_); go_loud (refine wpList_val rfl (run_row_rnode (.tmp 33) rfl n A pn pc rfl _) ?_))
        | ((with_reducible refine gate 35 rfl ?_); go_loud (refine wpList_append_agg rfl (.tmp 16) (.tmp 34) 29 rfl w0.heap.size 26 iN _ 39 120 Try.underlying29 hiN hzN0 hzN1 hzN2 rfl (by omega) _ ys.length (ndsL ys) rfl HM2.out.own (ndL n A pn pc) _ _ rfl rfl (ndL_len _ _ _ _) (ndL_one _ _ _ _) (by have := HLE.out; unfold maxLen; omega) (by have := HLE.out; omega) HM2.out.q.size ?_; intro v7 w7 hown7 hgr7 _; have HM7 := Lib.hid (HM2.out.push (z := ⟨n, A, pn, pc⟩) hgr7 hown7); clear hown7 hgr7)))
      go_roundw
      case rel => exact ⟨k + 1, by omega, by go_num, by rw [HTK.out]; exact HM7.out⟩
      case measure => simp [intOf]; omega
    · obtain rfl : nn = k := by omega
      have HR : Hid (zs.take nn = zs) := Lib.hid (List.take_of_length_le (by rw [HZ.out]; exact Nat.le_refl _))
      go_wp2_with fail
      go_ret
      exact ⟨_, rfl, by rw [← HR.out]; exact HM.out⟩
end Go.Proofs.Ytffenfhbiapefaa
