/- The walks through the document's In: Text, End, Open; the next name. -/
import Derived.Test.YtffenfhbiapefaaRin
import Derived.Test.YtffenfhbiapefaaMdo
import Derived.Test.YtffenfhbiapefaaGlyR
import Derived.Lib.BufferWrite
namespace Go.Proofs.Ytffenfhbiapefaa
set_option linter.unusedVariables false
set_option linter.unusedSimpArgs false
open Go.RowKit

section
set_option maxHeartbeats 16000000 in
set_option maxRecDepth 100000 in
theorem rtext_in (g e : Nat) (L : List Nat) (w : World) (limit : Int) (h : RHas w g e L) (hl : -9223372036854775808 ≤ limit ∧ limit ≤ 9223372036854775807) :
    Calls Try.prog 40 #[.pointer (some ⟨g, 0, none⟩), .int .i64 limit] w (RDone w g (.string (strB (textRd limit (e, L)).1)) (textRd limit (e, L)).2) := by
  obtain ⟨lim, hlim⟩ : ∃ lim, min limit 131072 = lim := ⟨_, rfl⟩
  have hn := Lib.hid (rnum_in g e L w lim h (by omega))
  unfold textRd
  rw [hlim]
  obtain ⟨⟨v, s⟩, hs⟩ : ∃ r, numRd lim (e, L) = r := ⟨_, rfl⟩
  rw [hs] at hn ⊢
  obtain ⟨e1, M⟩ := s
  clear hs h
  obtain ⟨⟨b, t⟩, hr⟩ : ∃ r, rawRd (v : Int) (e1, M) = r := ⟨_, rfl⟩
  have HRW := Lib.hid hr
  simp only
  rw [hr]
  clear hr
  go_enter Try.func40, Try.ntmps40
  go_wp2_with (first
    | (go_at_call 39; go_loud ((with_reducible refine hn.out.mono ?_); rintro e w1 ⟨rfl, h1⟩; have H1 := Lib.hid h1; clear h1))
    | (go_at_call 53; go_loud ((with_reducible refine (rraw_in g _ _ w1 _ H1.out.1).mono ?_); rintro e w2 ⟨rfl, h3, h4⟩; rw [HRW.out] at h3; have H2 := Lib.hid (And.intro h3 h4); clear h3 h4)))
  go_ret
  exact ⟨by rw [HRW.out]; rfl, H2.out.1, H1.out.2.trans H2.out.2⟩
set_option maxHeartbeats 16000000 in
set_option maxRecDepth 100000 in
theorem rend_in (g e : Nat) (L : List Nat) (w : World) (h : RHas w g e L) :
    Calls Try.prog 42 #[.pointer (some ⟨g, 0, none⟩)] w (RDone w g (.int .i64 ((endRd (e, L)).1 : Int)) (endRd (e, L))) := by
  have c0 := h.c0
  have c1 := h.c1
  have HH := Lib.hid h
  have hby := h.byte
  clear h
  have hbe : (strB L).toList.isEmpty = decide (L = []) := by
    rw [Lib.toList_data]
    cases L <;> simp [strB]
  unfold endRd
  simp only
  by_cases he : e = 0
  · subst he
    by_cases hL : L = []
    · rw [if_pos hL]
      have hb2 : (strB L).toList.isEmpty = true := by rw [hbe]; exact decide_eq_true hL
      have HLN := Lib.hid hL
      clear hbe hL
      go_enter Try.func42, Try.ntmps42
      go_wp2_with fail
      go_ret
      exact ⟨rfl, HH.out, Only.refl _ _⟩
    · rw [if_neg hL]
      have hb2 : (strB L).toList.isEmpty = false := by rw [hbe]; exact decide_eq_false hL
      clear hbe
      go_enter Try.func42, Try.ntmps42
      go_wp2_with (first
        | ((with_reducible refine gate0 rfl ?_); go_loud (refine wpList_store_one rfl 31 (.tmp 17) _ rfl g 1 rfl (.int .i64 2) rfl sizeE1 rfl rfl 74 2 _ HH.out.row (by omega) ?_; intro w2 hr2 hp2; have HR2 := Lib.hid (And.intro (HH.out.err (e' := 2) rfl hr2) ((Only.refl (fun k => k = g) _).put hp2 rfl)); have c1' := HR2.out.1.c1; clear hr2 hp2)))
      go_ret
      exact ⟨rfl, HR2.out.1, HR2.out.2⟩
  · have hne : ((e : Int) == 0) = false := beq_eq_false_iff_ne.2 (by omega)
    have h1 : (if L = [] then (e, L) else (err1 e 2, L)) = (e, L) := by
      unfold err1
      rw [if_neg he]; split <;> rfl
    rw [h1]
    go_enter Try.func42, Try.ntmps42
    go_wp2_with fail
    go_ret
    exact ⟨rfl, HH.out, Only.refl _ _⟩
theorem RHas.fresh (w : World) (e : Nat) (L : List Nat) (hb : ∀ x ∈ L, x ≤ 255) (hl : L.length ≤ 140737488355328) {z : Int} (hz : z = (e : Int)) {s : ByteArray} (hs : s = strB L) : RHas (w.alloc (.cells #[.string s, .int .i64 z] 74)) w.heap.size e L := by
  subst hz hs
  refine ⟨World.rowIs_alloc w #[.string (strB L), .int .i64 (e : Int)] 74 _ (fun i hi => ?_), hb, hl⟩
  have hi : i < 2 := hi
  match i, hi with
  | 0, _ => rfl
  | 1, _ => rfl
def RNew (w : World) (s : Nat × List Nat) (e_ : Ending) (w' : World) : Prop := ∃ g, e_ = .returned (.pointer (some ⟨g, 0, none⟩)) ∧ RHas w' g s.1 s.2 ∧ Q w w' ∧ w.heap.size ≤ g
theorem run_build_rin1 {op : Oper} {a : Act} (z : Int) (x : Operand) (ho : op.op = .build 74 #[(1, x)]) (hx : a.eval x = .int .i64 z) (w : World) : (execOp a.eval op).run Try.prog w = .ok (.value (.agg #[.string ⟨#[]⟩, .int .i64 z])) w := by
  have hr : (Instr.build 74 #[(1, .int .i64 z)]).run Try.prog w = .ok (.agg #[.string ⟨#[]⟩, .int .i64 z]) w := by kernel_rfl
  unfold execOp
  simp only [ho, List.map_toArray, List.map_cons, List.map_nil, hx, Sem.run_bind, hr, Result.andThen_ok, Sem.run_pure]
theorem run_build_rin0 {op : Oper} {a : Act} (b : ByteArray) (x : Operand) (ho : op.op = .build 74 #[(0, x)]) (hx : a.eval x = .string b) (w : World) : (execOp a.eval op).run Try.prog w = .ok (.value (.agg #[.string b, .int .i64 0])) w := by
  have hr : (Instr.build 74 #[(0, .string b)]).run Try.prog w = .ok (.agg #[.string b, .int .i64 0]) w := by kernel_rfl
  unfold execOp
  simp only [ho, List.map_toArray, List.map_cons, List.map_nil, hx, Sem.run_bind, hr, Result.andThen_ok, Sem.run_pure]
theorem take_three {L H : List Nat} (hH : H.length = 3) (i : Nat) (hi : i ≤ L.length) (hi3 : i ≤ 3) (h : L.take i = H.take i) : (i = 3 → L.take 3 = H.take (min L.length 3)) ∧ (i = L.length → L.take 3 = H.take (min L.length 3)) ∧ (∀ h1 : i < L.length, ∀ h2 : i < 3, L[i] ≠ H[i]'(by omega) → ¬ L.take 3 = H.take (min L.length 3)) ∧ (∀ h1 : i < L.length, ∀ h2 : i < 3, L[i] = H[i]'(by omega) → L.take (i + 1) = H.take (i + 1)) := by
  refine ⟨?_, ?_, ?_, ?_⟩
  · rintro rfl
    rw [h, show min L.length 3 = 3 by omega]
  · rintro rfl
    rw [List.take_length] at h
    rw [show min L.length 3 = L.length by omega, ← h, List.take_of_length_le hi3]
  · intro h1 h2 hne he
    have h3 : (L.take 3)[i]? = (H.take (min L.length 3))[i]? := by rw [he]
    rw [List.getElem?_take, if_pos h2, List.getElem?_take, if_pos (by omega), List.getElem?_eq_getElem h1, List.getElem?_eq_getElem (by omega)] at h3
    exact hne (Option.some.inj h3)
  · intro h1 h2 he
    rw [List.take_succ_eq_append_getElem h1, List.take_succ_eq_append_getElem (by omega : i < H.length), h, he]
set_option maxHeartbeats 16000000 in
set_option maxRecDepth 100000 in
theorem ropen_in (L : List Nat) (w : World) (hby : ∀ x ∈ L, x ≤ 255) (hlen : L.length ≤ 140737488355328) :
    Calls Try.prog 38 #[.int .u8 110, .string (strB L)] w (RNew w (openRd 110 L)) := by
  have HBY := Lib.hid hby
  have hsz := strB_size L
  have HBG : Hid (∀ w1, Calls Try.prog 29 #[.int .u8 110] w1 (GivesStr w1 [72, 89, 110])) := Lib.hid fun w1 => rbegin_ok 110 (by omega) w1
  obtain ⟨o, ho⟩ : ∃ o, openRd 110 L = o := ⟨_, rfl⟩
  rw [ho]
  have HO := Lib.hid ho
  clear ho hby
  have hh255 : ∀ x ∈ [72, 89, 110], x ≤ 255 := by decide
  go_enter Try.func38, Try.ntmps38
  go_wp2_with (first
    | (go_at_call 29; go_loud ((with_reducible refine (HBG.out _).mono ?_); rintro e1 w1 ⟨rfl, hq1⟩; have HQ1 := Lib.hid hq1; clear hq1)))
  go_loopw [6] (fun k wr => ∃ i : Nat, i ≤ 3 ∧ i ≤ L.length ∧ k = .int .i64 i ∧ Hid (L.take i = [72, 89, 110].take i ∧ Q w wr)) (fun k _ => 3 - (intOf k).toNat)
  case atStart => exact ⟨0, by omega, by omega, rfl, rfl, HQ1.out⟩
  case round =>
    obtain ⟨i, hi3, hil, rfl, HJ⟩ := hrel
    obtain ⟨wi, hwi⟩ : ∃ w, w = wr := ⟨_, rfl⟩
    subst hwi
    have HT := Lib.hid (take_three (L := L) (H := [72, 89, 110]) rfl i hil hi3 HJ.out.1)
    by_cases h3 : i < 3
    · by_cases hl : i < L.length
      · obtain ⟨x, hx⟩ : ∃ x, x = L[i] := ⟨_, rfl⟩
        obtain ⟨y, hy⟩ : ∃ y, y = [72, 89, 110][i]'h3 := ⟨_, rfl⟩
        have HX : Hid (L.getD i 0 = x) := Lib.hid (by rw [hx]; simp [List.getD_eq_getElem?_getD, hl])
        have HY : Hid ([72, 89, 110].getD i 0 = y) := Lib.hid (by rw [hy]; simp [List.getD_eq_getElem?_getD, h3])
        have HIL := Lib.hid hl
        have HI3 : Hid (i < [72, 89, 110].length) := Lib.hid h3
        have HNE : Hid (x ≠ y → ¬ L.take 3 = [72, 89, 110].take (min L.length 3)) := Lib.hid fun h => HT.out.2.2.1 hl h3 (by rw [← hx, ← hy]; exact h)
        have HEQ : Hid (x = y → L.take (i + 1) = [72, 89, 110].take (i + 1)) := Lib.hid fun h => HT.out.2.2.2 hl h3 (by rw [← hx, ← hy]; exact h)
        have hge : ¬ (((strB L).size : Int) ≤ i) := by rw [hsz]; omega
        clear hx hy
        by_cases hxy : x = y
        · subst hxy
          have HTK := Lib.hid (HEQ.out rfl)
          clear HNE HEQ
          go_wp2_with fail
          -- REGS
          refine wp_region_factsL (by kernel_rfl) (by kernel_rfl) (factsOf [.is (.string (strB L)), .is (.int .i64 (i : Nat)), .is (.int .u8 (x : Nat)), .is (.string (strB [72, 89, 110])), .is (.int .i64 (i : Nat)), .is (.int .u8 (x : Nat)), .is (.bool false)]) (factsOf_stays _) ?_ ?_
          · refine ⟨?_, ?_, ?_, ?_, ?_, ?_, ?_, trivial⟩
            · intro ax wx hq hfr hd
              have f1 : ax.tmps.getD 1 undef = .string (strB L) := (hfr 1 (by kernel_rfl)).trans rfl
              have e1 := (getD_form _ _).symm.trans f1
              exact .inl ⟨wanted_free rfl, OpDoes.run (v := .string (strB L)) (w' := wx) (by unfold execOp; simp only [Act.eval, f1, Sem.run_pure]) ⟨Below.refl _ _, rfl⟩⟩
            · intro ax wx hq hfr hd
              have f6 : ax.tmps.getD 6 undef = .int .i64 (i : Nat) := (hfr 6 (by kernel_rfl)).trans rfl
              have e6 := (getD_form _ _).symm.trans f6
              exact .inl ⟨wanted_free rfl, OpDoes.run (v := .int .i64 (i : Nat)) (w' := wx) (by unfold execOp; simp only [Act.eval, f6, Sem.run_pure]) ⟨Below.refl _ _, rfl⟩⟩
            · intro ax wx hq hfr hd
              have f19 : ax.tmps.getD 19 undef = .string (strB L) := hd 0 (by kernel_rfl) _ _ rfl rfl
              have e19 := (getD_form _ _).symm.trans f19
              have f20 : ax.tmps.getD 20 undef = .int .i64 (i : Nat) := hd 1 (by kernel_rfl) _ _ rfl rfl
              have e20 := (getD_form _ _).symm.trans f20
              exact .inl ⟨wanted_free rfl, OpDoes.run (v := .int .u8 (x : Nat)) (w' := wx) (exec_str_at (.tmp 19) (.tmp 20) rfl HBY.out f19 f20 HIL.out HX.out wx) ⟨Below.refl _ _, rfl⟩⟩
            · intro ax wx hq hfr hd
              have f5 : ax.tmps.getD 5 undef = .string (strB [72, 89, 110]) := (hfr 5 (by kernel_rfl)).trans rfl
              have e5 := (getD_form _ _).symm.trans f5
              exact .inl ⟨wanted_free rfl, OpDoes.run (v := .string (strB [72, 89, 110])) (w' := wx) (by unfold execOp; simp only [Act.eval, f5, Sem.run_pure]) ⟨Below.refl _ _, rfl⟩⟩
            · intro ax wx hq hfr hd
              have f6 : ax.tmps.getD 6 undef = .int .i64 (i : Nat) := (hfr 6 (by kernel_rfl)).trans rfl
              have e6 := (getD_form _ _).symm.trans f6
              exact .inl ⟨wanted_free rfl, OpDoes.run (v := .int .i64 (i : Nat)) (w' := wx) (by unfold execOp; simp only [Act.eval, f6, Sem.run_pure]) ⟨Below.refl _ _, rfl⟩⟩
            · intro ax wx hq hfr hd
              have f22 : ax.tmps.getD 22 undef = .string (strB [72, 89, 110]) := hd 3 (by kernel_rfl) _ _ rfl rfl
              have e22 := (getD_form _ _).symm.trans f22
              have f23 : ax.tmps.getD 23 undef = .int .i64 (i : Nat) := hd 4 (by kernel_rfl) _ _ rfl rfl
              have e23 := (getD_form _ _).symm.trans f23
              exact .inl ⟨wanted_free rfl, OpDoes.run (v := .int .u8 (x : Nat)) (w' := wx) (exec_str_at (.tmp 22) (.tmp 23) rfl hh255 f22 f23 HI3.out HY.out wx) ⟨Below.refl _ _, rfl⟩⟩
            · intro ax wx hq hfr hd
              have f21 : ax.tmps.getD 21 undef = .int .u8 (x : Nat) := hd 2 (by kernel_rfl) _ _ rfl rfl
              have e21 := (getD_form _ _).symm.trans f21
              have f24 : ax.tmps.getD 24 undef = .int .u8 (x : Nat) := hd 5 (by kernel_rfl) _ _ rfl rfl
              have e24 := (getD_form _ _).symm.trans f24
              exact .inl ⟨wanted_free rfl, OpDoes.run (v := .bool false) (w' := wx) (by unfold execOp; simp [go_sem, Act.eval, e21, e24]) ⟨Below.refl _ _, rfl⟩⟩
          · intro us wx hq hf
            have f25 : us 25 = .bool false := hf 6 _ _ rfl rfl
            have HQX := Lib.hid hq
            clear hf hq
            simp only [fillSlots, List.setIfInBounds_toArray, List.set_cons_succ, List.set_cons_zero, f25]
            clear f25
          -- ENDS
            go_wp2_with fail
            go_roundw
            case rel => exact ⟨i + 1, by omega, HIL.out, by go_num, HTK.out, HJ.out.2.step HQX.out⟩
            case measure => simp [intOf]; omega
        · have HR : Hid (o = (2, [])) := Lib.hid (by rw [← HO.out]; unfold openRd; rw [if_neg (HNE.out hxy)])
          have hxy2 : ¬ ((x : Int) = (y : Int)) := by omega
          clear HNE HEQ
          go_wp2_with fail
          -- REGD
          refine wp_region_factsL (by kernel_rfl) (by kernel_rfl) (factsOf [.is (.string (strB L)), .is (.int .i64 (i : Nat)), .is (.int .u8 (x : Nat)), .is (.string (strB [72, 89, 110])), .is (.int .i64 (i : Nat)), .is (.int .u8 (y : Nat)), .is (.bool true)]) (factsOf_stays _) ?_ ?_
          · refine ⟨?_, ?_, ?_, ?_, ?_, ?_, ?_, trivial⟩
            · intro ax wx hq hfr hd
              have f1 : ax.tmps.getD 1 undef = .string (strB L) := (hfr 1 (by kernel_rfl)).trans rfl
              have e1 := (getD_form _ _).symm.trans f1
              exact .inl ⟨wanted_free rfl, OpDoes.run (v := .string (strB L)) (w' := wx) (by unfold execOp; simp only [Act.eval, f1, Sem.run_pure]) ⟨Below.refl _ _, rfl⟩⟩
            · intro ax wx hq hfr hd
              have f6 : ax.tmps.getD 6 undef = .int .i64 (i : Nat) := (hfr 6 (by kernel_rfl)).trans rfl
              have e6 := (getD_form _ _).symm.trans f6
              exact .inl ⟨wanted_free rfl, OpDoes.run (v := .int .i64 (i : Nat)) (w' := wx) (by unfold execOp; simp only [Act.eval, f6, Sem.run_pure]) ⟨Below.refl _ _, rfl⟩⟩
            · intro ax wx hq hfr hd
              have f19 : ax.tmps.getD 19 undef = .string (strB L) := hd 0 (by kernel_rfl) _ _ rfl rfl
              have e19 := (getD_form _ _).symm.trans f19
              have f20 : ax.tmps.getD 20 undef = .int .i64 (i : Nat) := hd 1 (by kernel_rfl) _ _ rfl rfl
              have e20 := (getD_form _ _).symm.trans f20
              exact .inl ⟨wanted_free rfl, OpDoes.run (v := .int .u8 (x : Nat)) (w' := wx) (exec_str_at (.tmp 19) (.tmp 20) rfl HBY.out f19 f20 HIL.out HX.out wx) ⟨Below.refl _ _, rfl⟩⟩
            · intro ax wx hq hfr hd
              have f5 : ax.tmps.getD 5 undef = .string (strB [72, 89, 110]) := (hfr 5 (by kernel_rfl)).trans rfl
              have e5 := (getD_form _ _).symm.trans f5
              exact .inl ⟨wanted_free rfl, OpDoes.run (v := .string (strB [72, 89, 110])) (w' := wx) (by unfold execOp; simp only [Act.eval, f5, Sem.run_pure]) ⟨Below.refl _ _, rfl⟩⟩
            · intro ax wx hq hfr hd
              have f6 : ax.tmps.getD 6 undef = .int .i64 (i : Nat) := (hfr 6 (by kernel_rfl)).trans rfl
              have e6 := (getD_form _ _).symm.trans f6
              exact .inl ⟨wanted_free rfl, OpDoes.run (v := .int .i64 (i : Nat)) (w' := wx) (by unfold execOp; simp only [Act.eval, f6, Sem.run_pure]) ⟨Below.refl _ _, rfl⟩⟩
            · intro ax wx hq hfr hd
              have f22 : ax.tmps.getD 22 undef = .string (strB [72, 89, 110]) := hd 3 (by kernel_rfl) _ _ rfl rfl
              have e22 := (getD_form _ _).symm.trans f22
              have f23 : ax.tmps.getD 23 undef = .int .i64 (i : Nat) := hd 4 (by kernel_rfl) _ _ rfl rfl
              have e23 := (getD_form _ _).symm.trans f23
              exact .inl ⟨wanted_free rfl, OpDoes.run (v := .int .u8 (y : Nat)) (w' := wx) (exec_str_at (.tmp 22) (.tmp 23) rfl hh255 f22 f23 HI3.out HY.out wx) ⟨Below.refl _ _, rfl⟩⟩
            · intro ax wx hq hfr hd
              have f21 : ax.tmps.getD 21 undef = .int .u8 (x : Nat) := hd 2 (by kernel_rfl) _ _ rfl rfl
              have e21 := (getD_form _ _).symm.trans f21
              have f24 : ax.tmps.getD 24 undef = .int .u8 (y : Nat) := hd 5 (by kernel_rfl) _ _ rfl rfl
              have e24 := (getD_form _ _).symm.trans f24
              exact .inl ⟨wanted_free rfl, OpDoes.run (v := .bool true) (w' := wx) (by unfold execOp; simp [go_sem, Act.eval, e21, e24, hxy2]) ⟨Below.refl _ _, rfl⟩⟩
          · intro us wx hq hf
            have f25 : us 25 = .bool true := hf 6 _ _ rfl rfl
            have HQX := Lib.hid hq
            clear hf hq
            simp only [fillSlots, List.setIfInBounds_toArray, List.set_cons_succ, List.set_cons_zero, f25]
            clear f25
          -- ENDD
            go_wp2_with (first
              | ((with_reducible refine gate 26 rfl ?_); go_loud (refine wpList_val rfl (run_build_rin1 2 _ rfl rfl _) ?_)))
            go_ret
            exact ⟨_, rfl, by rw [HR.out]; exact RHas.fresh _ 2 [] (by simp) (by simp) rfl rfl, (HJ.out.2.step HQX.out).alloc _, (HJ.out.2.step HQX.out).size⟩
      · obtain rfl : i = L.length := by omega
        have HR : Hid (o = (3, [])) := Lib.hid (by rw [← HO.out]; unfold openRd; rw [if_pos (HT.out.2.1 rfl), if_pos h3])
        have hge : ((strB L).size : Int) ≤ L.length := by rw [hsz]; omega
        go_wp2_with (first
          | ((with_reducible refine gate 17 rfl ?_); go_loud (refine wpList_val rfl (run_build_rin1 3 _ rfl rfl _) ?_)))
        go_ret
        exact ⟨_, rfl, by rw [HR.out]; exact RHas.fresh _ 3 [] (by simp) (by simp) rfl rfl, HJ.out.2.alloc _, HJ.out.2.size⟩
    · obtain rfl : i = 3 := by omega
      have HR : Hid (o = (0, L.drop 3)) := Lib.hid (by rw [← HO.out]; unfold openRd; rw [if_pos (HT.out.1 rfl), if_neg (by omega)])
      have HL3 := Lib.hid hil
      have HLE := Lib.hid hlen
      go_wp2_with (first
        | ((with_reducible refine gate 29 rfl ?_); go_loud (refine wpList_val rfl (exec_str_from (i := 3) (.tmp 28) _ rfl rfl rfl HL3.out _) ?_))
        | ((with_reducible refine gate 30 rfl ?_); go_loud (refine wpList_val rfl (run_build_rin0 _ (.tmp 29) rfl rfl _) ?_)))
      go_ret
      exact ⟨_, rfl, by rw [HR.out]; exact RHas.fresh _ 0 (L.drop 3) (fun x hx => HBY.out x (List.mem_of_mem_drop hx)) (by rw [List.length_drop]; have := HLE.out; omega) rfl rfl, HJ.out.2.alloc _, HJ.out.2.size⟩
end

section
section
variable {P : Program} {w : World} {ops : Array Oper} {rest : List Oper} {o : Oper} {a : Act} {K : Exit → Act → World → Prop}
/-- copy of a text into an array that it fills. -/
theorem wpList_copy_str (hgd : o.guard = none) (d s : Operand) (dT sT : TypeId) (ho : o.op = .call { callee := .builtin .copy, args := #[d, s], argTypes := #[dT, sT] }) (elem : TypeId) (hu : P.underlying dT = some (.slice elem)) (hsz : (P.info? elem).map (·.size) = some 1)
    (g N : Nat) (hd : a.eval d = .slice (some ⟨g, 0, none⟩) N N) (L : List Nat) (hb : ∀ x ∈ L, x ≤ 255) (hl : L.length = N) (hs : a.eval s = .string (strB L)) (t : TypeId) (f : Nat → Value) (hr : w.rowIs g t N f)
    (h : ∀ w', w'.rowIs g t N (arrF L) → Put g w w' → wpList P ops K rest (a.put o.dst (goInt N)) w') : wpList P ops K (o :: rest) a w := by
  obtain ⟨cur, hh, hcs, hcc⟩ := hr
  have hsize : (strB L).size = N := by rw [strB_size, hl]
  have e := Lib.run_copy_row_string (P := P) w dT sT o.type elem g 0 N N (strB L) cur t hu hsz hh (by omega) (by omega)
  rw [hsize] at e
  refine wpList_plain hgd fun K' hK => ?_
  unfold Oper.wp execOp
  simp only [ho, resolve, invoke, builtin, Sem.run_bind, Sem.run_pure, Result.andThen_ok, List.map_toArray, List.map_cons, List.map_nil, hd, hs, e]
  refine hK _ _ (h _ ⟨_, setRow_heap w g cur _ t (0, 0) hh, ?_, fun i hi => ?_⟩ (Put.of_setRow _ _ _))
  · simp [hcs, Lib.byteCells, strB, hl]
  · have hil : i < L.length := by omega
    rw [List.getElem?_toArray, List.take_zero, List.nil_append, List.getElem?_append_left (by simp [Lib.byteCells, strB]; exact hil)]
    have hx := hb _ (List.getElem_mem hil)
    simp [Lib.byteCells, strB, hil, arrF, B8]
    omega
end
theorem infoB : (Try.prog.info? 5).map (·.size) = some 1 := by kernel_rfl
set_option maxHeartbeats 16000000 in
set_option maxRecDepth 100000 in
theorem rid_ok (g e : Nat) (L : List Nat) (w : World) (h : RHas w g e L) :
    Calls Try.prog 41 #[.pointer (some ⟨g, 0, none⟩)] w fun e_ w' => e_ = .returned (.agg (arrO (idRd (e, L)).1)) ∧ RHas w' g (idRd (e, L)).2.1 (idRd (e, L)).2.2 ∧ Only (fun k => k = g) w w' := by
  obtain ⟨⟨x, t⟩, hr⟩ : ∃ r, rawRd 32 (e, L) = r := ⟨_, rfl⟩
  have HR := Lib.hid hr
  have HH := Lib.hid h
  have hid : idRd (e, L) = (if t.1 = 0 then x else noId, t) := by unfold idRd; rw [hr]
  rw [hid]
  have hgl := h.lt
  have hxb : ∀ y ∈ x, y ≤ 255 := by
    unfold rawRd at hr
    split at hr
    · split at hr
      · rw [Prod.mk.injEq] at hr; rw [← hr.1]; simp
      · split at hr
        · rw [Prod.mk.injEq] at hr; rw [← hr.1]; simp
        · rw [Prod.mk.injEq] at hr; rw [← hr.1]; exact fun y hy => h.byte y (List.mem_of_mem_take hy)
    · rw [Prod.mk.injEq] at hr; rw [← hr.1]; simp
  clear h hid
  have HRW : Hid (∀ w1, Q w w1 → Calls Try.prog 53 #[.pointer (some ⟨g, 0, none⟩), .int .i64 32] w1 (RDone w1 g (.string (strB x)) t)) := Lib.hid fun w1 hq => by
    have h1 := rraw_in g e L w1 32 (HH.out.q hq)
    rw [HR.out] at h1
    exact h1
  obtain ⟨e9, M9⟩ := t
  rcases raw32 hr with ⟨hx, ht⟩ | ⟨hx, ht⟩
  · have ht0 : e9 = 0 := ht
    subst ht0
    rw [if_pos rfl]
    have HX := Lib.hid hx
    have HXB := Lib.hid hxb
    clear hr hx ht hxb
    go_enter Try.func41, Try.ntmps41
    go_wp2_with (first
      | ((with_reducible refine gate 2 rfl ?_); go_loud (refine wpList_alloc_row rfl 24 rfl _ (zeroI _) 32 _ (arrO_size _) (fun i hi => arrO_get _ hi) ?_; intro w1 hr1 hx1; have H1 := Lib.hid (And.intro hr1 (hx1.q (Q.refl _))); have HC := Lib.hid (HRW.out w1 H1.out.2); clear hr1 hx1))
      | (go_at_call 53; go_loud ((with_reducible refine (HC.out).mono ?_); rintro e2 w2 ⟨rfl, hin2, ho2⟩; have HIN := Lib.hid (And.intro hin2 ho2); have hgl2 : g < w2.heap.size := hin2.lt; clear hin2 ho2))
      | ((with_reducible refine gate 4 rfl ?_); go_loud (refine wpList_alloc_row rfl 24 rfl _ (zeroI _) 32 _ (arrO_size _) (fun i hi => arrO_get _ hi) ?_; intro w3 hr3 hx3; have H3 := Lib.hid (And.intro hr3 (hx3.q (Q.refl _))); have c1 := (HIN.out.1.q H3.out.2).c1; skip; clear hr3 hx3))
      | ((with_reducible refine gate 14 rfl ?_); go_loud (refine wpList_copy_str rfl (.tmp 12) (.tmp 13) 40 9 rfl 5 Try.underlying40 infoB w2.heap.size 32 rfl x HXB.out HX.out rfl 24 _ H3.out.1 ?_; intro w4 hr4 hp4; have H4 := Lib.hid (And.intro hr4 hp4); have HS2 : Hid (w.heap.size < w2.heap.size) := Lib.hid (by have := H1.out.1.lt; have := HIN.out.2.size; omega); clear hr4 hp4))
      | ((with_reducible refine gate 15 rfl ?_); go_loud (refine wpList_val rfl (load_id 0 (.tmp 4) rfl rfl (row_cells H4.out.1)) ?_))
      | ((with_reducible refine gate0 rfl ?_); go_loud (refine wpList_store_all rfl 24 (.tmp 2) (.tmp 15) rfl w.heap.size rfl _ rfl 32 sizeI _ (arrO_agg x) (fun i _ => rfl) 24 _ (H4.out.2.row ((HIN.out.2.step H3.out.2).row H1.out.1 (by omega)) (by have := HS2.out; omega)) ?_; intro w5 hr5 hp5; have H5 := Lib.hid (And.intro hr5 hp5); clear hr5 hp5)))
    refine ret_cell rfl w.heap.size rfl _ Try.underlying24 rfl 32 sizeI (arrF x) (row_cells H5.out.1) rfl (fun v hv => ⟨by rw [arrO_eq hv], ?_, ?_⟩)
    · exact ((HIN.out.1.q H3.out.2).only (S := fun k => k = w2.heap.size) ((Only.refl _ _).put H4.out.2 rfl) (by omega)).only (S := fun k => k = w.heap.size) ((Only.refl _ _).put H5.out.2 rfl) (by omega)
    · exact (((Only.of_q H1.out.2).trans (HIN.out.2.step H3.out.2)).through ((Only.refl (fun k => k = w2.heap.size) _).put H4.out.2 rfl) (fun k hk => .inr (by have := HS2.out; omega))).through ((Only.refl (fun k => k = w.heap.size) _).put H5.out.2 rfl) (fun k hk => .inr (by omega))
  · have ht0 : ¬ e9 = 0 := ht
    rw [if_neg ht]
    have hne : ((e9 : Int) == 0) = false := beq_eq_false_iff_ne.2 (by omega)
    clear hr hx ht hxb
    go_enter Try.func41, Try.ntmps41
    go_wp2_with (first
      | ((with_reducible refine gate 2 rfl ?_); go_loud (refine wpList_alloc_row rfl 24 rfl _ (zeroI _) 32 _ (arrO_size _) (fun i hi => arrO_get _ hi) ?_; intro w1 hr1 hx1; have H1 := Lib.hid (And.intro hr1 (hx1.q (Q.refl _))); have HC := Lib.hid (HRW.out w1 H1.out.2); clear hr1 hx1))
      | (go_at_call 53; go_loud ((with_reducible refine (HC.out).mono ?_); rintro e2 w2 ⟨rfl, hin2, ho2⟩; have HIN := Lib.hid (And.intro hin2 ho2); have hgl2 : g < w2.heap.size := hin2.lt; clear hin2 ho2))
      | ((with_reducible refine gate 4 rfl ?_); go_loud (refine wpList_alloc_row rfl 24 rfl _ (zeroI _) 32 _ (arrO_size _) (fun i hi => arrO_get _ hi) ?_; intro w3 hr3 hx3; have H3 := Lib.hid (And.intro hr3 (hx3.q (Q.refl _))); have c1 := (HIN.out.1.q H3.out.2).c1; skip; clear hr3 hx3))
      | ((with_reducible refine gate 15 rfl ?_); go_loud (refine wpList_val rfl (load_id 0 (.tmp 4) rfl rfl (row_cells H3.out.1)) ?_))
      | ((with_reducible refine gate0 rfl ?_); go_loud (refine wpList_store_all rfl 24 (.tmp 2) (.tmp 15) rfl w.heap.size rfl _ rfl 32 sizeI _ (arrO_agg noId) (fun i _ => rfl) 24 _ ((HIN.out.2.step H3.out.2).row H1.out.1 (by omega)) ?_; intro w5 hr5 hp5; have H5 := Lib.hid (And.intro hr5 hp5); clear hr5 hp5)))
    refine ret_cell rfl w.heap.size rfl _ Try.underlying24 rfl 32 sizeI (arrF noId) (row_cells H5.out.1) rfl (fun v hv => ⟨by rw [arrO_eq hv], ?_, ?_⟩)
    · exact (HIN.out.1.q H3.out.2).only (S := fun k => k = w.heap.size) ((Only.refl _ _).put H5.out.2 rfl) (by omega)
    · exact ((Only.of_q H1.out.2).trans (HIN.out.2.step H3.out.2)).through ((Only.refl (fun k => k = w.heap.size) _).put H5.out.2 rfl) (fun k hk => .inr (by omega))
end

section
theorem name_put (n : Nd) (x : ByteArray) (B : Option Addr) (bn bc : Nat) (i : Nat) (hi : i < 39) : (if i = 0 then .string x else ndF n B bn bc i) = ndF { n with name := x } B bn bc i := by
  unfold ndF
  by_cases h : i = 0
  · subst h; rfl
  · rw [if_neg h]
    simp only [if_neg h]
theorem kind_put (n : Nd) (x : Int) (B : Option Addr) (bn bc : Nat) (i : Nat) (hi : i < 39) : (if i = 1 then .int .i64 x else ndF n B bn bc i) = ndF { n with kind := x } B bn bc i := by
  unfold ndF
  by_cases h : i = 1
  · subst h; rfl
  · rw [if_neg h]
    simp only [if_neg h]
theorem mode_put (n : Nd) (x : Int) (B : Option Addr) (bn bc : Nat) (i : Nat) (hi : i < 39) : (if i = 2 then .int .i64 x else ndF n B bn bc i) = ndF { n with mode := x } B bn bc i := by
  unfold ndF
  by_cases h : i = 2
  · subst h; rfl
  · rw [if_neg h]
    simp only [if_neg h]
theorem time_put (n : Nd) (x : Int) (B : Option Addr) (bn bc : Nat) (i : Nat) (hi : i < 39) : (if i = 3 then .int .i64 x else ndF n B bn bc i) = ndF { n with time := x } B bn bc i := by
  unfold ndF
  by_cases h : i = 3
  · subst h; rfl
  · rw [if_neg h]
    simp only [if_neg h]
theorem docLoop_sound : ∀ (k : Nat) (out out' : List Nd) (s s' : Nat × List Nat), docLoop k out s = (out', s') → s'.1 = 0 → (∀ x ∈ s.2, x ≤ 255) → (∀ n ∈ out, WasRead n) →
    (∀ n ∈ out', WasRead n) ∧ ∃ r, out' = out ++ r ∧ s.2 = r.flatMap encNd ++ s'.2
  | 0, out, out', s, s', h, h0, hb, hw => by
    unfold docLoop at h
    rw [Prod.mk.injEq] at h
    obtain ⟨rfl, rfl⟩ := h
    exact ⟨hw, [], by simp, by simp⟩
  | k + 1, out, out', s, s', h, h0, hb, hw => by
    unfold docLoop at h
    by_cases hs : s.1 = 0
    · rw [if_neg (by simp [hs])] at h
      obtain ⟨⟨n, t⟩, hn⟩ : ∃ r, getRd s = r := ⟨_, rfl⟩
      rw [hn] at h
      have ht : t.1 = 0 := by
        by_cases ht : t.1 = 0
        · exact ht
        · rw [docLoop_stop _ _ _ ht, Prod.mk.injEq] at h
          rw [← h.2] at h0; exact absurd h0 ht
      obtain ⟨g1, g2, g3⟩ := get_sound hb hn ht
      obtain ⟨a1, r, a2, a3⟩ := docLoop_sound k _ out' t s' h h0 (bytes_tail hb g2) (fun m hm => by
        rcases List.mem_append.1 hm with hm | hm
        · exact hw m hm
        · rw [List.mem_singleton.1 hm]; exact g3)
      exact ⟨a1, n :: r, by rw [a2]; simp, by rw [g2, a3]; simp⟩
    · rw [if_pos hs, Prod.mk.injEq] at h
      rw [← h.2] at h0; exact absurd h0 hs
theorem flatten32 {l : List (List Nat)} (h : ∀ i ∈ l, i.length = 32) : l.flatten.length = l.length * 32 := by
  induction l with
  | nil => rfl
  | cons a l ih =>
    rw [List.flatten_cons, List.length_append, ih (fun i hi => h i (List.mem_cons_of_mem _ hi)), h a (by simp), List.length_cons]
    omega
theorem encNd_ids {n : Nd} (h : WasRead n) : n.ids.length * 32 ≤ (encNd n).length := by
  rcases h.only_ with hk | hk
  · unfold encNd
    rw [if_pos hk]
    have h1 := flatten32 (fun i hi => (h.ids i hi).1)
    simp only [List.length_append]
    omega
  · rw [hk]; simp
theorem mem_flat_len {ns : List Nd} {n : Nd} (h : n ∈ ns) : (encNd n).length ≤ (ns.flatMap encNd).length := by
  induction ns with
  | nil => cases h
  | cons a l ih =>
    rw [List.flatMap_cons, List.length_append]
    rcases List.mem_cons.1 h with rfl | h
    · omega
    · have := ih h; omega
end
end Go.Proofs.Ytffenfhbiapefaa
