/- The walks through glyph's Out: Text, Raw, Flag, Bytes, Begin. -/
import Derived.Test.YtffenfhbiapefaaGlyA
import Derived.Test.YtffenfhbiapefaaAppS
namespace Go.Proofs.Ytffenfhbiapefaa
set_option linter.unusedVariables false
set_option linter.unusedSimpArgs false
open Go.RowKit

/-- One text more. -/
def textStep (s : Nat × List Nat) (t : ByteArray) : Nat × List Nat := if s.1 = 0 then (if t.size ≤ 131072 then (0, s.2 ++ (numL t.size ++ bytesOf t)) else (4, s.2)) else s
theorem textStep_len (s : Nat × List Nat) (t : ByteArray) : (textStep s t).2.length ≤ s.2.length + 131081 := by
  unfold textStep
  split
  · split
    · rename_i h
      have := numL_nine (n := t.size) (by omega)
      simp [bytesOf_len]; omega
    · simp
  · simp
theorem textSteps_len (ts : List ByteArray) : ∀ s, (ts.foldl textStep s).2.length ≤ s.2.length + 131081 * ts.length := by
  induction ts with
  | nil => intro s; simp
  | cons z zs ih => intro s; have h1 := ih (textStep s z); have h2 := textStep_len s z; simp only [List.foldl_cons, List.length_cons]; omega

set_option maxHeartbeats 16000000 in
set_option maxRecDepth 100000 in
theorem texts_ok (base g e c : Nat) (A : Option Addr) (zs : List ByteArray) (L : List Nat) (v : Value) (ok : Nat → Prop) (w : World) (h : OutHas w base g e L v) (hs : SeesP w ok A (zs.map .string)) (hok : ∀ k, ok k → k < w.heap.size ∧ ¬ OutS g v k) (hL : L.length + 131081 * zs.length ≤ 50000000000) (hz : zs.length ≤ 100000) (hm : ∀ t ∈ zs, t.size ≤ 9223372036854775807) :
    Calls Try.prog 50 #[.pointer (some ⟨g, 0, none⟩), .slice A zs.length c] w (OutBack w base g (zs.foldl textStep (e, L)) v) := by
  obtain ⟨i0, hi, hz0, hz1, hz2⟩ := info_parts info8
  have HR := Lib.hid (OutSt.refl h)
  have HS := Lib.hid hs
  have HOK := Lib.hid hok
  have HM := Lib.hid hm
  have hbase : base ≤ w.heap.size := by have := h.row.lt; have := h.new; omega
  obtain ⟨N, hN⟩ : ∃ N, N = zs.length := ⟨_, rfl⟩
  have HN := Lib.hid hN
  rw [← hN] at hL hz ⊢
  have H0 : Hid (∃ v', OutSt w v w base g ((zs.take 0).foldl textStep (e, L)).1 ((zs.take 0).foldl textStep (e, L)).2 v') := ⟨v, HR.out⟩
  clear h hs hok hN hm
  go_enter Try.func50, Try.ntmps50
  go_wp2_with fail
  go_loopw [9] (fun i wr => ∃ k : Nat, k ≤ N ∧ i = .int .i64 k ∧ Hid (∃ v', OutSt w v wr base g ((zs.take k).foldl textStep (e, L)).1 ((zs.take k).foldl textStep (e, L)).2 v')) (fun i _ => N - (intOf i).toNat)
  case atStart => exact ⟨0, by omega, rfl, H0.out⟩
  case round =>
    obtain ⟨k, hk, rfl, HW⟩ := hrel
    obtain ⟨v', hst⟩ := HW.out
    have HST := Lib.hid hst
    clear hst
    by_cases hlt : k < N
    · have hkl : k < zs.length := by rw [← HN.out]; exact hlt
      obtain ⟨bb, oo, rfl, hbb, hc⟩ := (HST.out.only.sees HS.out HOK.out).at_ (k := k) (u := .string zs[k]) (by simp [hkl])
      have HNX : Hid ((zs.take (k + 1)).foldl textStep (e, L) = textStep ((zs.take k).foldl textStep (e, L)) zs[k]) := by show _ = _; rw [List.take_succ_eq_append_getElem hkl, List.foldl_append]; rfl
      have hlen := textSteps_len (zs.take k) (e, L)
      rw [List.length_take] at hlen
      have hzm := HM.out zs[k] (List.getElem_mem hkl)
      generalize zs[k] = z at *
      have c1 := HST.out.has.e_
      obtain ⟨st, hst⟩ : ∃ st, st = (zs.take k).foldl textStep (e, L) := ⟨_, rfl⟩
      rw [← hst] at HST c1 HNX hlen
      have hl2 : st.2.length ≤ 50000000000 := by simp only at hlen; omega
      clear hst hlen HW
      obtain ⟨e0, L0⟩ := st
      simp only at c1 hl2
      by_cases he : e0 = 0
      · subst he
        by_cases hsz : z.size ≤ 131072
        · have hnum := Lib.hid (num_ok base g 0 z.size L0 v' wr HST.out.has (by omega) (by omega))
          have HNS : Hid (textStep (0, L0) z = (0, L0 ++ (numL z.size ++ bytesOf z))) := by show _ = _; unfold textStep; rw [if_pos rfl, if_pos hsz]
          have h9 := numL_nine (n := z.size) (by omega)
          have hb2 : base ≤ wr.heap.size := Nat.le_trans hbase HST.out.only.size
          clear hbb
          go_wp2_with (first
            | (go_at_call 49; go_loud ((with_reducible refine hnum.out.mono ?_); rintro e w1 ⟨v1, rfl, h1⟩; have H1 := Lib.hid (HST.out.trans h1); have HH := Lib.hid h1.has; have c0 := h1.has.b; have z0 := h1.has.row.frozen 0; have hgl := h1.has.row.lt; have hb3 : base ≤ w1.heap.size := Nat.le_trans hb2 h1.only.size; clear h1))
            | (at_builtin; go_loud (refine wpList_append_str rfl (.tmp 21) (.tmp 22) 40 9 rfl base 5 i0 Try.underlying40 Try.underlying9 hi hz0 hz1 hz2 v1 _ _ rfl HH.out.own z rfl (by rw [List.length_append]; unfold maxLen; omega) (by rw [List.length_append]; omega) hb3 ?_; intro v2 w2 hown2 hgr2; obtain ⟨B2, bc2, rfl⟩ := own_form hown2; have cc := (hgr2.cell (p := ⟨g, 0, none⟩) hgl HH.out.far).trans c0; have zz := (HH.out.row.of_block (hgr2.block g hgl HH.out.far)).frozen 0; have H2 := Lib.hid (H1.out.trans (HH.out.put (M := bytesOf z) (bytesOf_byte z) (by rw [bytesOf_len]; exact hown2) hgr2)); clear hown2 hgr2)))
          go_roundw
          case rel => exact ⟨k + 1, by omega, by go_num, _, by rw [HNX.out, HNS.out, ← List.append_assoc]; have h2 := H2.out; rw [List.length_append] at h2; exact h2⟩
          case measure => simp [intOf]; omega
        · have hf := Lib.hid (show Calls Try.prog 62 #[.pointer (some ⟨g, 0, none⟩), .int .i64 4] wr (OutDone wr base g 4 L0 v') from fail_ok base g 0 4 L0 v' wr HST.out.has)
          have HNS : Hid (textStep (0, L0) z = (4, L0)) := by show _ = _; unfold textStep; rw [if_pos rfl, if_neg hsz]
          clear hbb
          go_wp2_with (go_at_call 62; go_loud ((with_reducible refine hf.out.mono ?_); rintro e w1 ⟨v1, rfl, h1⟩; have H1 := Lib.hid (HST.out.trans h1); clear h1))
          go_roundw
          case rel => exact ⟨k + 1, by omega, by go_num, _, by rw [HNX.out, HNS.out]; exact H1.out⟩
          case measure => simp [intOf]; omega
      · have hd : ((e0 : Int) == 0) = false := beq_eq_false_iff_ne.2 (by omega)
        have hd' : ((e0 : Int) != 0) = true := bne_iff_ne.2 (by omega)
        have HNS : Hid (textStep (e0, L0) z = (e0, L0)) := by show _ = _; exact if_neg he
        clear he hbb
        go_wp2_with fail
        go_roundw
        case rel => exact ⟨k + 1, by omega, by go_num, _, by rw [HNX.out, HNS.out]; exact HST.out⟩
        case measure => simp [intOf]; omega
    · have HE : Hid (OutSt w v wr base g (zs.foldl textStep (e, L)).1 (zs.foldl textStep (e, L)).2 v') := by
        have h1 := HST.out
        rw [List.take_of_length_le (by rw [← HN.out]; omega)] at h1
        exact h1
      clear HST HW
      go_wp2_with fail
      go_ret
      exact ⟨v', rfl, HE.out⟩
end Go.Proofs.Ytffenfhbiapefaa
