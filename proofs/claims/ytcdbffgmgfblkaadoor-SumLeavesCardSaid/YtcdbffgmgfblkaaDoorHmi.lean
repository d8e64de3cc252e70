/- SumStretches. -/
import Derived.Test.YtcdbffgmgfblkaaDoorHmh
import Derived.Test.YtcdbffgmgfblkaaDoorRegf
namespace Go.Proofs.YtcdbffgmgfblkaaDoor
set_option linter.unusedVariables false
set_option linter.unusedSimpArgs false
open Go.RowKit

theorem run_convert_op {P : Program} (op : Oper) (ρ : Operand → Value) (w : World) (src dst e : TypeId) (x : Operand) (ho : op.op = .convert src dst x) (hs : P.underlying src = some (.slice e)) (he : P.underlying e = some (.int .u8)) (hd : P.underlying dst = some .string)
    (A : Option Addr) (n c : Nat) (L : List Nat) (hx : ρ x = .slice A n c) (hl : L.length = n) (h : SeesP w (· < w.heap.size) A (L.map B8)) : (execOp ρ op).run P w = .ok (.value (.string (strB L))) w := by
  have hr := run_convert_sees (P := P) w src dst e hs he hd _ A n c L hl h
  unfold execOp
  simp only [ho, hx, Sem.run_bind, hr, Result.andThen_ok, Sem.run_pure]

set_option maxHeartbeats 8000000 in
set_option maxRecDepth 100000 in
theorem sumStretches_walk (Ak : Option Addr) (nk ck mk : Nat) (K : List Nat) (A : Option Addr) (n c m : Nat) (L : List Nat) (t : Int) (w : World) (hG : Glob w) (hmk : mk = min nk 300) (hnk : nk ≤ ck) (hck : ck ≤ 9223372036854775807) (hlk : K.length = mk) (hsk : Sees w w.heap.size Ak (K.map B8)) (hbk : ∀ x ∈ K, x ≤ 255) (hAk : Ak = none → ck = 0)
    (hm : m = min n 300) (hnc : n ≤ c) (hcm : c ≤ 9223372036854775807) (hl : L.length = m) (hs : Sees w w.heap.size A (L.map B8)) (hb : ∀ x ∈ L, x ≤ 255) :
    Calls Tryd.prog 7 #[.slice Ak nk ck, .slice A n c, .int .i64 t] w fun e w' => e = .returned (.bool true) ∧ Below w.heap.size w w' := by
  obtain ⟨i8, hi8, hz80, hz81, hz82⟩ := info_parts info8
  have f1 : (if (300 : Int) < (nk : Int) then 300 else (nk : Int)) = (mk : Int) := by split <;> omega
  have f2 : (if (300 : Int) < (n : Int) then 300 else (n : Int)) = (m : Int) := by split <;> omega
  have s1 := run_cut_hi (P := Tryd.prog) 22 5 Tryd.underlying22 i8 hi8 Ak nk ck .i64 mk (by omega)
  have s2 := run_cut_hi (P := Tryd.prog) 22 5 Tryd.underlying22 i8 hi8 A n c .i64 m (by omega)
  obtain ⟨q, hq⟩ : ∃ q, q = min t 30 := ⟨_, rfl⟩
  have f3 : (if (30 : Int) < t then 30 else t) = q := by rw [hq]; split <;> omega
  obtain ⟨N, hN⟩ : ∃ N : Nat, (N : Int) = max (min q 100000) 0 := ⟨(max (min q 100000) 0).toNat, by omega⟩
  have HN := Lib.hid hN
  have hmk3 : mk ≤ 300 := by omega
  have hm3 : m ≤ 300 := by omega
  have HG := Lib.hid hG
  have HL := Lib.hid hl
  have HS := Lib.hid hs
  have HB := Lib.hid hb
  have HLK := Lib.hid hlk
  have HSK := Lib.hid hsk
  have HBK := Lib.hid hbk
  have HAK := Lib.hid hAk
  clear hG hl hs hb hlk hsk hbk hAk hq hN hmk hm
  go_enter Tryd.func7, Tryd.ntmps7
  go_wp2_with fail
  go_quiet (fail)
  have HQ0 : Hid (Q w (w.drewN nq)) := (Q.refl w).drewN nq
  generalize w.drewN nq = wq at *
  go_wp2_with fail
  have HST : Hid (∀ (t' : Int) (N' : Nat) wx, (N' : Int) = max (min t' 100000) 0 → Q wq wx → Calls Tryd.prog 22 #[.slice Ak mk ck, .slice A m c, .int .i64 t'] wx fun e w' => e = .returned (.agg (arrO (stretch K L N'))) ∧ Hid (Q wx w')) := fun t' N' wx h1 hq => stretch_ok Ak mk ck K A m c L t' N' wx (HG.out.q (HQ0.out.trans' hq)) HLK.out (SeesP.on HSK.out (HQ0.out.trans' hq)) HBK.out HAK.out (by omega) HL.out (SeesP.on HS.out (HQ0.out.trans' hq)) HB.out (by omega) h1
  have HRS : Hid (∀ wx, Calls Tryd.prog 23 #[.string (strB K), .string (strB L), .int .i64 q] wx fun e w' => e = .returned (.string (strB (stretch K L N))) ∧ Hid (Q wx w')) := fun wx => refStretch_ok K L q N wx HBK.out HB.out (by rw [HLK.out]; omega) (by rw [HL.out]; omega) HN.out
  have HZ1 : Hid (((0 : Nat) : Int) = max (min (-1 : Int) 100000) 0) := by show _ = _; omega
  have HZ0 : Hid (((0 : Nat) : Int) = max (min (0 : Int) 100000) 0) := by show _ = _; omega
  have l0 : (stretch K L 0).length = 32 := stretch_len K L 0
  have HLN := Lib.hid (stretch_len K L N)
  clear f1 f2 f3 s1 s2
  refine wp_region_facts (by kernel_rfl) (by kernel_rfl) (factsOf [.is (.bool true), .is (.bool true), .is (.slice Ak mk ck), .is (.slice A m c), .is (.int .i64 q), .is (.agg (arrO (stretch K L N))), .is (.string (strB (stretch K L N))), .is (.slice Ak mk ck), .is (.string (strB K)), .is (.slice A m c), .is (.string (strB L)), .is (.int .i64 q), .is (.string (strB (stretch K L N))), .is (.bool true), .is (.bool true), .is (.bool true), .is (.slice Ak mk ck), .is (.slice A m c), .is (.agg (arrO (stretch K L 0))), .is (.slice Ak mk ck), .is (.slice A m c), .is (.agg (arrO (stretch K L 0))), .is (.bool true), .is (.bool true), .is (.bool true)]) (factsOf_stays _) ?_ ?_
  · refine ⟨?_, ?_, ?_, ?_, ?_, ?_, ?_, ?_, ?_, ?_, ?_, ?_, ?_, ?_, ?_, ?_, ?_, ?_, ?_, ?_, ?_, ?_, ?_, ?_, ?_, trivial⟩
    · intro ax wx hq hfr hd
      exact .inl ⟨wanted_free rfl, OpDoes.call (f := 16) (args := #[]) (w' := wx) (by unfold execOp; simp [go_sem, Act.eval]) ((sums_ok wx (HG.out.q (HQ0.out.trans' hq))).mono fun e w2 h => ⟨_, h.1, h.2.out, rfl⟩)⟩
    · intro ax wx hq hfr hd
      have f19 : ax.tmps.getD 19 undef = .bool true := hd 0 (by kernel_rfl) _ _ rfl rfl
      have e19 := (getD_form _ _).symm.trans f19
      exact .inl ⟨wanted_free rfl, OpDoes.run (v := .bool true) (w' := wx) (by unfold execOp; simp only [Act.eval, f19, Sem.run_pure]) ⟨Below.refl _ _, rfl⟩⟩
    · intro ax wx hq hfr hd
      have f0 : ax.tmps.getD 0 undef = .slice Ak mk ck := (hfr 0 (noDst_spec (by kernel_rfl))).trans rfl
      have e0 := (getD_form _ _).symm.trans f0
      exact .inl ⟨wanted_on rfl rfl rfl (hd 1 (by kernel_rfl) _ _ rfl rfl), OpDoes.run (v := .slice Ak mk ck) (w' := wx) (by unfold execOp; simp only [Act.eval, f0, Sem.run_pure]) ⟨Below.refl _ _, rfl⟩⟩
    · intro ax wx hq hfr hd
      have f1 : ax.tmps.getD 1 undef = .slice A m c := (hfr 1 (noDst_spec (by kernel_rfl))).trans rfl
      have e1 := (getD_form _ _).symm.trans f1
      exact .inl ⟨wanted_on rfl rfl rfl (hd 1 (by kernel_rfl) _ _ rfl rfl), OpDoes.run (v := .slice A m c) (w' := wx) (by unfold execOp; simp only [Act.eval, f1, Sem.run_pure]) ⟨Below.refl _ _, rfl⟩⟩
    · intro ax wx hq hfr hd
      have f2 : ax.tmps.getD 2 undef = .int .i64 q := (hfr 2 (noDst_spec (by kernel_rfl))).trans rfl
      have e2 := (getD_form _ _).symm.trans f2
      exact .inl ⟨wanted_on rfl rfl rfl (hd 1 (by kernel_rfl) _ _ rfl rfl), OpDoes.run (v := .int .i64 q) (w' := wx) (by unfold execOp; simp only [Act.eval, f2, Sem.run_pure]) ⟨Below.refl _ _, rfl⟩⟩
    · intro ax wx hq hfr hd
      have f21 : ax.tmps.getD 21 undef = .slice Ak mk ck := hd 2 (by kernel_rfl) _ _ rfl rfl
      have e21 := (getD_form _ _).symm.trans f21
      have f22 : ax.tmps.getD 22 undef = .slice A m c := hd 3 (by kernel_rfl) _ _ rfl rfl
      have e22 := (getD_form _ _).symm.trans f22
      have f23 : ax.tmps.getD 23 undef = .int .i64 q := hd 4 (by kernel_rfl) _ _ rfl rfl
      have e23 := (getD_form _ _).symm.trans f23
      exact .inl ⟨wanted_on rfl rfl rfl (hd 1 (by kernel_rfl) _ _ rfl rfl), OpDoes.call (f := 22) (args := #[.slice Ak mk ck, .slice A m c, .int .i64 q]) (w' := wx) (by unfold execOp; simp [go_sem, Act.eval, e21, e22, e23]) ((HST.out q N wx HN.out hq).mono fun e w2 h => ⟨_, h.1, h.2.out, rfl⟩)⟩
    · intro ax wx hq hfr hd
      have f24 : ax.tmps.getD 24 undef = .agg (arrO (stretch K L N)) := hd 5 (by kernel_rfl) _ _ rfl rfl
      have e24 := (getD_form _ _).symm.trans f24
      exact .inl ⟨wanted_on rfl rfl rfl (hd 1 (by kernel_rfl) _ _ rfl rfl), OpDoes.call (f := 17) (args := #[.agg (arrO (stretch K L N))]) (w' := wx) (by unfold execOp; simp [go_sem, Act.eval, e24]) ((text_ok _ (stretch K L N) wx (arrO_agg _) HLN.out).mono fun e w2 h => ⟨_, h.1, h.2.out, rfl⟩)⟩
    · intro ax wx hq hfr hd
      have f0 : ax.tmps.getD 0 undef = .slice Ak mk ck := (hfr 0 (noDst_spec (by kernel_rfl))).trans rfl
      have e0 := (getD_form _ _).symm.trans f0
      exact .inl ⟨wanted_on rfl rfl rfl (hd 1 (by kernel_rfl) _ _ rfl rfl), OpDoes.run (v := .slice Ak mk ck) (w' := wx) (by unfold execOp; simp only [Act.eval, f0, Sem.run_pure]) ⟨Below.refl _ _, rfl⟩⟩
    · intro ax wx hq hfr hd
      have f26 : ax.tmps.getD 26 undef = .slice Ak mk ck := hd 7 (by kernel_rfl) _ _ rfl rfl
      have e26 := (getD_form _ _).symm.trans f26
      exact .inl ⟨wanted_on rfl rfl rfl (hd 1 (by kernel_rfl) _ _ rfl rfl), OpDoes.run (v := .string (strB K)) (w' := wx) (run_convert_op _ _ _ 22 9 5 (.tmp 26) rfl Tryd.underlying22 Tryd.underlying5 Tryd.underlying9 Ak mk ck K f26 HLK.out (SeesP.on HSK.out (HQ0.out.trans' hq))) ⟨Below.refl _ _, rfl⟩⟩
    · intro ax wx hq hfr hd
      have f1 : ax.tmps.getD 1 undef = .slice A m c := (hfr 1 (noDst_spec (by kernel_rfl))).trans rfl
      have e1 := (getD_form _ _).symm.trans f1
      exact .inl ⟨wanted_on rfl rfl rfl (hd 1 (by kernel_rfl) _ _ rfl rfl), OpDoes.run (v := .slice A m c) (w' := wx) (by unfold execOp; simp only [Act.eval, f1, Sem.run_pure]) ⟨Below.refl _ _, rfl⟩⟩
    · intro ax wx hq hfr hd
      have f28 : ax.tmps.getD 28 undef = .slice A m c := hd 9 (by kernel_rfl) _ _ rfl rfl
      have e28 := (getD_form _ _).symm.trans f28
      exact .inl ⟨wanted_on rfl rfl rfl (hd 1 (by kernel_rfl) _ _ rfl rfl), OpDoes.run (v := .string (strB L)) (w' := wx) (run_convert_op _ _ _ 22 9 5 (.tmp 28) rfl Tryd.underlying22 Tryd.underlying5 Tryd.underlying9 A m c L f28 HL.out (SeesP.on HS.out (HQ0.out.trans' hq))) ⟨Below.refl _ _, rfl⟩⟩
    · intro ax wx hq hfr hd
      have f2 : ax.tmps.getD 2 undef = .int .i64 q := (hfr 2 (noDst_spec (by kernel_rfl))).trans rfl
      have e2 := (getD_form _ _).symm.trans f2
      exact .inl ⟨wanted_on rfl rfl rfl (hd 1 (by kernel_rfl) _ _ rfl rfl), OpDoes.run (v := .int .i64 q) (w' := wx) (by unfold execOp; simp only [Act.eval, f2, Sem.run_pure]) ⟨Below.refl _ _, rfl⟩⟩
    · intro ax wx hq hfr hd
      have f27 : ax.tmps.getD 27 undef = .string (strB K) := hd 8 (by kernel_rfl) _ _ rfl rfl
      have e27 := (getD_form _ _).symm.trans f27
      have f29 : ax.tmps.getD 29 undef = .string (strB L) := hd 10 (by kernel_rfl) _ _ rfl rfl
      have e29 := (getD_form _ _).symm.trans f29
      have f30 : ax.tmps.getD 30 undef = .int .i64 q := hd 11 (by kernel_rfl) _ _ rfl rfl
      have e30 := (getD_form _ _).symm.trans f30
      exact .inl ⟨wanted_on rfl rfl rfl (hd 1 (by kernel_rfl) _ _ rfl rfl), OpDoes.call (f := 23) (args := #[.string (strB K), .string (strB L), .int .i64 q]) (w' := wx) (by unfold execOp; simp [go_sem, Act.eval, e27, e29, e30]) ((HRS.out wx).mono fun e w2 h => ⟨_, h.1, h.2.out, rfl⟩)⟩
    · intro ax wx hq hfr hd
      have f25 : ax.tmps.getD 25 undef = .string (strB (stretch K L N)) := hd 6 (by kernel_rfl) _ _ rfl rfl
      have e25 := (getD_form _ _).symm.trans f25
      have f31 : ax.tmps.getD 31 undef = .string (strB (stretch K L N)) := hd 12 (by kernel_rfl) _ _ rfl rfl
      have e31 := (getD_form _ _).symm.trans f31
      exact .inl ⟨wanted_on rfl rfl rfl (hd 1 (by kernel_rfl) _ _ rfl rfl), OpDoes.run (v := .bool true) (w' := wx) (by unfold execOp; simp [go_sem, Act.eval, e25, e31]) ⟨Below.refl _ _, rfl⟩⟩
    · intro ax wx hq hfr hd
      have f20 : ax.tmps.getD 20 undef = .bool true := hd 1 (by kernel_rfl) _ _ rfl rfl
      have e20 := (getD_form _ _).symm.trans f20
      have f32 : ax.tmps.getD 32 undef = .bool true := hd 13 (by kernel_rfl) _ _ rfl rfl
      have e32 := (getD_form _ _).symm.trans f32
      exact .inl ⟨wanted_free rfl, OpDoes.run (v := .bool true) (w' := wx) (by unfold execOp; simp [go_sem, Act.eval, e20, e32]) ⟨Below.refl _ _, rfl⟩⟩
    · intro ax wx hq hfr hd
      have f33 : ax.tmps.getD 33 undef = .bool true := hd 14 (by kernel_rfl) _ _ rfl rfl
      have e33 := (getD_form _ _).symm.trans f33
      exact .inl ⟨wanted_free rfl, OpDoes.run (v := .bool true) (w' := wx) (by unfold execOp; simp only [Act.eval, f33, Sem.run_pure]) ⟨Below.refl _ _, rfl⟩⟩
    · intro ax wx hq hfr hd
      have f0 : ax.tmps.getD 0 undef = .slice Ak mk ck := (hfr 0 (noDst_spec (by kernel_rfl))).trans rfl
      have e0 := (getD_form _ _).symm.trans f0
      exact .inl ⟨wanted_on rfl rfl rfl (hd 15 (by kernel_rfl) _ _ rfl rfl), OpDoes.run (v := .slice Ak mk ck) (w' := wx) (by unfold execOp; simp only [Act.eval, f0, Sem.run_pure]) ⟨Below.refl _ _, rfl⟩⟩
    · intro ax wx hq hfr hd
      have f1 : ax.tmps.getD 1 undef = .slice A m c := (hfr 1 (noDst_spec (by kernel_rfl))).trans rfl
      have e1 := (getD_form _ _).symm.trans f1
      exact .inl ⟨wanted_on rfl rfl rfl (hd 15 (by kernel_rfl) _ _ rfl rfl), OpDoes.run (v := .slice A m c) (w' := wx) (by unfold execOp; simp only [Act.eval, f1, Sem.run_pure]) ⟨Below.refl _ _, rfl⟩⟩
    · intro ax wx hq hfr hd
      have f35 : ax.tmps.getD 35 undef = .slice Ak mk ck := hd 16 (by kernel_rfl) _ _ rfl rfl
      have e35 := (getD_form _ _).symm.trans f35
      have f36 : ax.tmps.getD 36 undef = .slice A m c := hd 17 (by kernel_rfl) _ _ rfl rfl
      have e36 := (getD_form _ _).symm.trans f36
      exact .inl ⟨wanted_on rfl rfl rfl (hd 15 (by kernel_rfl) _ _ rfl rfl), OpDoes.call (f := 22) (args := #[.slice Ak mk ck, .slice A m c, .int .i64 (-1)]) (w' := wx) (by unfold execOp; simp [go_sem, Act.eval, e35, e36]) ((HST.out (-1) 0 wx HZ1.out hq).mono fun e w2 h => ⟨_, h.1, h.2.out, rfl⟩)⟩
    · intro ax wx hq hfr hd
      have f0 : ax.tmps.getD 0 undef = .slice Ak mk ck := (hfr 0 (noDst_spec (by kernel_rfl))).trans rfl
      have e0 := (getD_form _ _).symm.trans f0
      exact .inl ⟨wanted_on rfl rfl rfl (hd 15 (by kernel_rfl) _ _ rfl rfl), OpDoes.run (v := .slice Ak mk ck) (w' := wx) (by unfold execOp; simp only [Act.eval, f0, Sem.run_pure]) ⟨Below.refl _ _, rfl⟩⟩
    · intro ax wx hq hfr hd
      have f1 : ax.tmps.getD 1 undef = .slice A m c := (hfr 1 (noDst_spec (by kernel_rfl))).trans rfl
      have e1 := (getD_form _ _).symm.trans f1
      exact .inl ⟨wanted_on rfl rfl rfl (hd 15 (by kernel_rfl) _ _ rfl rfl), OpDoes.run (v := .slice A m c) (w' := wx) (by unfold execOp; simp only [Act.eval, f1, Sem.run_pure]) ⟨Below.refl _ _, rfl⟩⟩
    · intro ax wx hq hfr hd
      have f38 : ax.tmps.getD 38 undef = .slice Ak mk ck := hd 19 (by kernel_rfl) _ _ rfl rfl
      have e38 := (getD_form _ _).symm.trans f38
      have f39 : ax.tmps.getD 39 undef = .slice A m c := hd 20 (by kernel_rfl) _ _ rfl rfl
      have e39 := (getD_form _ _).symm.trans f39
      exact .inl ⟨wanted_on rfl rfl rfl (hd 15 (by kernel_rfl) _ _ rfl rfl), OpDoes.call (f := 22) (args := #[.slice Ak mk ck, .slice A m c, .int .i64 0]) (w' := wx) (by unfold execOp; simp [go_sem, Act.eval, e38, e39]) ((HST.out 0 0 wx HZ0.out hq).mono fun e w2 h => ⟨_, h.1, h.2.out, rfl⟩)⟩
    · intro ax wx hq hfr hd
      have f37 : ax.tmps.getD 37 undef = .agg (arrO (stretch K L 0)) := hd 18 (by kernel_rfl) _ _ rfl rfl
      have e37 := (getD_form _ _).symm.trans f37
      have f40 : ax.tmps.getD 40 undef = .agg (arrO (stretch K L 0)) := hd 21 (by kernel_rfl) _ _ rfl rfl
      have e40 := (getD_form _ _).symm.trans f40
      exact .inl ⟨wanted_on rfl rfl rfl (hd 15 (by kernel_rfl) _ _ rfl rfl), OpDoes.run (v := .bool true) (w' := wx) (run_eq_same _ (stretch K L 0) l0 _ _ _ _ rfl f37 f40 _) ⟨Below.refl _ _, rfl⟩⟩
    · intro ax wx hq hfr hd
      have f34 : ax.tmps.getD 34 undef = .bool true := hd 15 (by kernel_rfl) _ _ rfl rfl
      have e34 := (getD_form _ _).symm.trans f34
      have f41 : ax.tmps.getD 41 undef = .bool true := hd 22 (by kernel_rfl) _ _ rfl rfl
      have e41 := (getD_form _ _).symm.trans f41
      exact .inl ⟨wanted_free rfl, OpDoes.run (v := .bool true) (w' := wx) (by unfold execOp; simp [go_sem, Act.eval, e34, e41]) ⟨Below.refl _ _, rfl⟩⟩
    · intro ax wx hq hfr hd
      have f42 : ax.tmps.getD 42 undef = .bool true := hd 23 (by kernel_rfl) _ _ rfl rfl
      have e42 := (getD_form _ _).symm.trans f42
      exact .inl ⟨wanted_free rfl, OpDoes.run (v := .bool true) (w' := wx) (by unfold execOp; simp only [Act.eval, f42, Sem.run_pure]) ⟨Below.refl _ _, rfl⟩⟩
  · intro ax wx inv
    have f6 : ax.tmps.getD 6 undef = .bool true := inv.fact 24 _ _ rfl rfl (by simp)
    have hdf : ax.defers = [] := inv.defers
    have HQX : Hid (Q wq wx) := inv.q
    clear inv
    go_wp2_with fail
    refine bodyPost_ret (results_tmp rfl _ _ _) hdf ⟨?_, HQ0.out.trans' HQX.out⟩
    rw [f6]
theorem sumStretches_true (Ak : Option Addr) (nk ck : Nat) (zk : List Int) (A : Option Addr) (n c : Nat) (zs : List Int) (t : Int) (_ : (Lit.int .i64 t).wf = true) (w : World) (wk : IsRow .u8 w Ak nk ck zk) (w0 : IsRow .u8 w A n c zs) (hG : Glob w) :
    Calls Tryd.prog 7 #[.slice Ak nk ck, .slice A n c, .int .i64 t] w fun e w' => e = .returned (.bool true) ∧ Below w.heap.size w w' := by
  obtain ⟨h1, h2, h3, h4, h5, h6⟩ := row8 w0 (min n 300) (by omega)
  obtain ⟨k1, k2, k3, k4, k5, k6⟩ := row8 wk (min nk 300) (by omega)
  exact sumStretches_walk Ak nk ck _ _ A n c _ _ t w hG rfl k4 k5 k1 k2 k3 k6 rfl h4 h5 h1 h2 h3
end Go.Proofs.YtcdbffgmgfblkaaDoor
