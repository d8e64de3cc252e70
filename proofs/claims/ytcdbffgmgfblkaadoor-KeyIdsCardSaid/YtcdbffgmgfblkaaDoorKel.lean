/- The walk through the document's Id. -/
import Derived.Test.YtcdbffgmgfblkaaDoorKek
namespace Go.Proofs.YtcdbffgmgfblkaaDoor
set_option linter.unusedVariables false
set_option linter.unusedSimpArgs false
open Go.RowKit

theorem run_convert_op2 {P : Program} (op : Oper) (ρ : Operand → Value) (w : World) (src dst e : TypeId) (x : Operand) (ho : op.op = .convert src dst x) (hs : P.underlying src = some (.slice e)) (he : P.underlying e = some (.int .u8)) (hd : P.underlying dst = some .string)
    (A : Option Addr) (n c : Nat) (L : List Nat) (hx : ρ x = .slice A n c) (hl : L.length = n) (h : SeesP w (· < w.heap.size) A (L.map B8)) : (execOp ρ op).run P w = .ok (.value (.string (strB L))) w := by
  have hr := run_convert_sees (P := P) w src dst e hs he hd _ A n c L hl h
  unfold execOp
  simp only [ho, hx, Sem.run_bind, hr, Result.andThen_ok, Sem.run_pure]

set_option maxHeartbeats 8000000 in
set_option maxRecDepth 100000 in
theorem docId_ok (h m N : List Nat) (x : Nat) (L : List Nat) (w : World) (hx : x ≤ 255) (hN : N.length = 32) (hbN : ∀ x ∈ N, x ≤ 255) (hL : ∀ x ∈ L, x ≤ 255) (hl : L.length ≤ 10000) :
    Calls Tryd.prog 31 #[.agg (ringC h m N), .int .u8 (x : Int), .string (strB L)] w fun e w' => e = .returned (.agg (arrO (hmac N (x :: L)))) ∧ Hid (Q w w') := by
  obtain ⟨i8, hi8, hz80, hz81, hz82⟩ := info_parts info8
  have HN := Lib.hid hN
  have HBN := Lib.hid hbN
  have HL := Lib.hid hL
  have hadd := run_add_strB (P := Tryd.prog) [x] L (by simp; omega)
  rw [show [x] ++ L = x :: L from rfl] at hadd
  have HK := Lib.hid (fun wx => refKeyed_ok N (x :: L) hbN (fun y hy => by rcases List.mem_cons.1 hy with rfl | h; exact hx; exact hL y h) (by omega) (by simp; omega) wx)
  have HO := Lib.hid (fun wx => refof_ok (hmac N (x :: L)) (hmac_byte _ _) (hmac_len _ _) wx)
  clear hN hbN hL
  go_enter Tryd.func31, Tryd.ntmps31
  go_wp2_with (first
    | (refine gate 3 rfl ?_; refine wpList_box_row rfl 52 (.tmp 0) rfl _ rfl 96 _ (ring_agg h m N) ?_; intro w1 hr1 hx1; have H1 := Lib.hid (And.intro hr1 (hx1.q (Q.refl _))); clear hr1 hx1)
    | (refine gate 6 rfl ?_; go_loud (refine wpList_alloc_row rfl 58 rfl _ (zeroI _) 32 _ rfl zer32_get ?_; intro w2 hr2 hx2; have H2 := Lib.hid (And.intro hr2 (hx2.q (Q.refl _))); clear hr2 hx2)))
  have HR3 : Hid (w2.rowIs w.heap.size 52 96 (ringF h m N)) := row_q H2.out.2 H1.out.1
  have HQ2 : Hid (Q w w2) := H1.out.2.trans' H2.out.2
  have k64 := run_arr_all (P := Tryd.prog) 28 5 32 Tryd.underlying28 i8 hi8 hz81 w.heap.size 64
  refine wp_region_facts_tail (by kernel_rfl) (by kernel_rfl) (by kernel_rfl) _ rfl (factsOf [.is (.pointer (some ⟨w.heap.size, 64, none⟩)), .is (.slice (some ⟨w.heap.size, 64, none⟩) 32 32), .is (.string (strB N)), .is (.int .u8 (x : Int)), .row [B8 x], .is (.string (strB [x])), .is (.string (strB L)), .is (.string (strB (x :: L))), .is (.string (strB (hmac N (x :: L)))), .is (.agg (arrO (hmac N (x :: L))))]) (factsOf_stays _) ?_ ?_
  · refine ⟨?_, ?_, ?_, ?_, ?_, ?_, ?_, ?_, ?_, ?_, trivial⟩
    · intro ax wx hq hfr hd
      have f3 : ax.tmps.getD 3 undef = .pointer (some ⟨w.heap.size, 0, none⟩) := (hfr 3 (noDst_spec (by kernel_rfl))).trans rfl
      have e3 := (getD_form _ _).symm.trans f3
      exact .inl ⟨wanted_free rfl, OpDoes.run (v := .pointer (some ⟨w.heap.size, 64, none⟩)) (w' := wx) (by unfold execOp; simp [go_sem, Act.eval, e3]) ⟨Below.refl _ _, rfl⟩⟩
    · intro ax wx hq hfr hd
      have f7 : ax.tmps.getD 7 undef = .pointer (some ⟨w.heap.size, 64, none⟩) := hd 0 (by kernel_rfl) _ _ rfl rfl
      have e7 := (getD_form _ _).symm.trans f7
      exact .inl ⟨wanted_free rfl, OpDoes.run (v := .slice (some ⟨w.heap.size, 64, none⟩) 32 32) (w' := wx) (by unfold execOp; simp [go_sem, Act.eval, e7, k64]) ⟨Below.refl _ _, rfl⟩⟩
    · intro ax wx hq hfr hd
      have f8 : ax.tmps.getD 8 undef = .slice (some ⟨w.heap.size, 64, none⟩) 32 32 := hd 1 (by kernel_rfl) _ _ rfl rfl
      have e8 := (getD_form _ _).symm.trans f8
      exact .inl ⟨wanted_free rfl, OpDoes.run (v := .string (strB N)) (w' := wx) (run_convert_op2 _ _ _ 22 9 5 (.tmp 8) rfl Tryd.underlying22 Tryd.underlying5 Tryd.underlying9 _ 32 32 N f8 HN.out (sees_name (row_q hq HR3.out) HN.out)) ⟨Below.refl _ _, rfl⟩⟩
    · intro ax wx hq hfr hd
      have f1 : ax.tmps.getD 1 undef = .int .u8 (x : Int) := (hfr 1 (noDst_spec (by kernel_rfl))).trans rfl
      have e1 := (getD_form _ _).symm.trans f1
      exact .inl ⟨wanted_free rfl, OpDoes.run (v := .int .u8 (x : Int)) (w' := wx) (by unfold execOp; simp only [Act.eval, f1, Sem.run_pure]) ⟨Below.refl _ _, rfl⟩⟩
    · intro ax wx hq hfr hd
      have f10 : ax.tmps.getD 10 undef = .int .u8 (x : Int) := hd 3 (by kernel_rfl) _ _ rfl rfl
      have e10 := (getD_form _ _).symm.trans f10
      exact .inl ⟨wanted_free rfl, OpDoes.run (v := .slice (some ⟨wx.heap.size, 0, none⟩) 1 1) (w' := wx.alloc (.cells #[.int .u8 (x : Int)] 5)) (by unfold execOp; simp [go_sem, Act.eval, e10]) ⟨(Q.refl wx).alloc _, ⟨_, rfl, new1 wx [B8 x] _⟩⟩⟩
    · intro ax wx hq hfr hd
      obtain ⟨g11, f11, r11⟩ : ∃ g, ax.tmps.getD 11 undef = .slice (some ⟨g, 0, none⟩) 1 1 ∧ SeesP wx (· < wx.heap.size) (some ⟨g, 0, none⟩) [B8 x] := hd 4 (by kernel_rfl) _ _ rfl rfl
      have e11 := (getD_form _ _).symm.trans f11
      exact .inl ⟨wanted_free rfl, OpDoes.run (v := .string (strB [x])) (w' := wx) (run_convert_op2 _ _ _ 22 9 5 (.tmp 11) rfl Tryd.underlying22 Tryd.underlying5 Tryd.underlying9 _ 1 1 [x] f11 rfl r11) ⟨Below.refl _ _, rfl⟩⟩
    · intro ax wx hq hfr hd
      have f2 : ax.tmps.getD 2 undef = .string (strB L) := (hfr 2 (noDst_spec (by kernel_rfl))).trans rfl
      have e2 := (getD_form _ _).symm.trans f2
      exact .inl ⟨wanted_free rfl, OpDoes.run (v := .string (strB L)) (w' := wx) (by unfold execOp; simp only [Act.eval, f2, Sem.run_pure]) ⟨Below.refl _ _, rfl⟩⟩
    · intro ax wx hq hfr hd
      have f12 : ax.tmps.getD 12 undef = .string (strB [x]) := hd 5 (by kernel_rfl) _ _ rfl rfl
      have e12 := (getD_form _ _).symm.trans f12
      have f13 : ax.tmps.getD 13 undef = .string (strB L) := hd 6 (by kernel_rfl) _ _ rfl rfl
      have e13 := (getD_form _ _).symm.trans f13
      exact .inl ⟨wanted_free rfl, OpDoes.run (v := .string (strB (x :: L))) (w' := wx) (by unfold execOp; simp [go_sem, Act.eval, e12, e13, hadd]) ⟨Below.refl _ _, rfl⟩⟩
    · intro ax wx hq hfr hd
      have f9 : ax.tmps.getD 9 undef = .string (strB N) := hd 2 (by kernel_rfl) _ _ rfl rfl
      have e9 := (getD_form _ _).symm.trans f9
      have f14 : ax.tmps.getD 14 undef = .string (strB (x :: L)) := hd 7 (by kernel_rfl) _ _ rfl rfl
      have e14 := (getD_form _ _).symm.trans f14
      exact .inl ⟨wanted_free rfl, OpDoes.call (f := 20) (args := #[.string (strB N), .string (strB (x :: L))]) (w' := wx) (by unfold execOp; simp [go_sem, Act.eval, e9, e14]) ((HK.out wx).mono fun e w2 h => ⟨_, h.1, h.2.out, rfl⟩)⟩
    · intro ax wx hq hfr hd
      have f15 : ax.tmps.getD 15 undef = .string (strB (hmac N (x :: L))) := hd 8 (by kernel_rfl) _ _ rfl rfl
      have e15 := (getD_form _ _).symm.trans f15
      exact .inl ⟨wanted_free rfl, OpDoes.call (f := 44) (args := #[.string (strB (hmac N (x :: L)))]) (w' := wx) (by unfold execOp; simp [go_sem, Act.eval, e15]) ((HO.out wx).mono fun e w2 h => ⟨_, h.1, h.2.out, rfl⟩)⟩
  · intro ax wx inv K hK
    have f6 : ax.tmps.getD 6 undef = .pointer (some ⟨w1.heap.size, 0, none⟩) := (inv.frame 6 (noDst_spec (by kernel_rfl))).trans rfl
    have f16 : ax.tmps.getD 16 undef = .agg (arrO (hmac N (x :: L))) := inv.fact 9 _ _ (by decide) rfl rfl
    have f6 : ax.tmps.getD 6 undef = .pointer (some ⟨w1.heap.size, 0, none⟩) := (inv.frame 6 (noDst_spec (by kernel_rfl))).trans rfl
    refine ⟨wanted_free rfl, wp_store_all 58 (.tmp 6) (.tmp 16) rfl w1.heap.size f6 _ f16 32 infoI _ (arrO_agg _) (fun i _ => rfl) 58 _ (row_q inv.q H2.out.1) fun w3 hr3 hp3 => hK _ _ ?_⟩
    have hdf : ax.defers = [] := inv.defers
    have HQX : Hid (Q w2 wx) := inv.q
    have H3 := Lib.hid (And.intro hr3 hp3)
    clear inv hr3 hp3 hK
    go_wp2_with fail
    refine ret_cell rfl w1.heap.size f6 _ Tryd.underlying58 rfl 32 infoI _ (row_cells H3.out.1) hdf (fun v hv => ⟨by rw [arrO_eq hv], ?_⟩)
    exact H3.out.2.q (HQ2.out.trans' HQX.out) H1.out.2.size
end Go.Proofs.YtcdbffgmgfblkaaDoor
