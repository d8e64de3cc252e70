/- The walk through the document's fold. -/
import Derived.Test.YtcdbffgmgfblkaaDoorShaF
namespace Go.Proofs.YtcdbffgmgfblkaaDoor
set_option linter.unusedVariables false
set_option linter.unusedSimpArgs false
open Go.RowKit

theorem quiet_more {P : Program} {f : FuncId} {args : Array Value} {w : World} {n : Nat} {v : Value}
    (h : Calls P f args (w.drewN n) fun e w' => e = .returned v ∧ ∃ m, w' = (w.drewN n).drewN m) : Calls P f args (w.drewN n) fun e w'' => e = .returned v ∧ ∃ m, w'' = w.drewN m :=
  h.mono fun _ _ ⟨he, m, hm⟩ => ⟨he, n + m, by rw [hm, World.drewN_drewN]⟩
theorem right_any (x : BitVec 32) (z : Int) (hz : z ∈ ([7, 18, 17, 19, 6, 11, 25, 2, 13, 22] : List Int)) (w : World) : Calls Tryd.prog 51 #[.int .u32 (u32v x), .int .i64 z] w fun e w' => e = .returned (.int .u32 (u32v (rotr x z.toNat))) ∧ ∃ m, w' = w.drewN m := by
  have h0 : 0 < z ∧ z < 32 := by
    simp only [List.mem_cons, List.not_mem_nil, or_false] at hz
    omega
  obtain ⟨n, rfl⟩ := Int.eq_ofNat_of_zero_le (show 0 ≤ z by omega)
  exact right_ok x n (by omega) (by omega) w
/-- A row of words: the first k of the block's. -/
abbrev WRow (w : World) (g : Nat) (b : List Nat) (k : Nat) : Prop := w.rowIs g 77 64 (fun i => W32 ((wl b k).getD i 0))
theorem wrow_next {w : World} {g k : Nat} {b : List Nat} {x : Wd} (h : WRow w g b k) (hw : wl b (k + 1) = wl b k ++ [x]) : WRow (w.setCell ⟨g, k, none⟩ (.int .u32 (u32v x))) g b (k + 1) :=
  (h.set k (.int .u32 (u32v x))).congr fun i _ => by
    rw [hw, getD_snoc, wl_len]
    split <;> rfl

/-- A register's row. -/
structure VR (w : World) (base g c : Nat) (V : V8) : Prop where
  ge : base ≤ g
  le : 8 ≤ c
  row : ∃ f, w.rowIs g 77 c f ∧ ∀ i, i < 8 → f i = W32 (V.l.getD i 0)
theorem VR.cell {w : World} {base g c : Nat} {V : V8} (h : VR w base g c V) (i : Nat) (hi : i < 8) : w.cell? ⟨g, i, none⟩ = some (.int .u32 (u32v (V.l.getD i 0))) := by
  obtain ⟨f, h1, h2⟩ := h.row
  rw [h1.cell (i := i) (by have := h.le; omega), h2 i hi]; rfl
theorem VR.cells {w : World} {base g c : Nat} {V : V8} (h : VR w base g c V) : w.cell? ⟨g, 0, none⟩ = some (.int .u32 (u32v V.a)) ∧ w.cell? ⟨g, 1, none⟩ = some (.int .u32 (u32v V.b)) ∧ w.cell? ⟨g, 2, none⟩ = some (.int .u32 (u32v V.c)) ∧ w.cell? ⟨g, 3, none⟩ = some (.int .u32 (u32v V.d)) ∧
    w.cell? ⟨g, 4, none⟩ = some (.int .u32 (u32v V.e)) ∧ w.cell? ⟨g, 5, none⟩ = some (.int .u32 (u32v V.f)) ∧ w.cell? ⟨g, 6, none⟩ = some (.int .u32 (u32v V.g)) ∧ w.cell? ⟨g, 7, none⟩ = some (.int .u32 (u32v V.h)) :=
  ⟨h.cell 0 (by omega), h.cell 1 (by omega), h.cell 2 (by omega), h.cell 3 (by omega), h.cell 4 (by omega), h.cell 5 (by omega), h.cell 6 (by omega), h.cell 7 (by omega)⟩
theorem VR.new (w : World) (V : V8) : VR (w.alloc (.cells #[.int .u32 (u32v V.a), .int .u32 (u32v V.b), .int .u32 (u32v V.c), .int .u32 (u32v V.d), .int .u32 (u32v V.e), .int .u32 (u32v V.f), .int .u32 (u32v V.g), .int .u32 (u32v V.h)] 77)) w.heap.size w.heap.size 8 V :=
  ⟨Nat.le_refl _, Nat.le_refl _, fun i => W32 (V.l.getD i 0), World.rowIs_alloc w _ _ _ (below8 rfl rfl rfl rfl rfl rfl rfl rfl), fun _ _ => rfl⟩
theorem VR.base {w : World} {base base' g c : Nat} {V : V8} (h : VR w base g c V) (hb : base' ≤ base) : VR w base' g c V := ⟨Nat.le_trans hb h.ge, h.le, h.row⟩
/-- What a round reads. -/
structure Rd (w0 w : World) (g c : Nat) (V : V8) (gk gw k : Nat) (kk xk : Wd) : Prop where
  q : Q w0 w
  v : VR w w0.heap.size g c V
  ck : w.cell? ⟨gk, k, none⟩ = some (.int .u32 (u32v kk))
  cw : w.cell? ⟨gw, k, none⟩ = some (.int .u32 (u32v xk))
theorem Rd.drewN {w0 w : World} {g c : Nat} {V : V8} {gk gw k : Nat} {kk xk : Wd} (h : Rd w0 w g c V gk gw k kk xk) (n : Nat) : Rd w0 (w.drewN n) g c V gk gw k kk xk := ⟨h.q.drewN n, ⟨h.v.ge, h.v.le, h.v.row⟩, h.ck, h.cw⟩
theorem Rd.drew {w0 w : World} {g c : Nat} {V : V8} {gk gw k : Nat} {kk xk : Wd} (h : Rd w0 w g c V gk gw k kk xk) : Rd w0 w.drew g c V gk gw k kk xk := ⟨h.q.drew, ⟨h.v.ge, h.v.le, h.v.row⟩, h.ck, h.cw⟩
theorem u32_not (x : BitVec 32) : bits .xor .u32 (if IntKind.u32.signed = true then -1 else IntKind.u32.max) (u32v x) = u32v (~~~x) := by
  have h : (if IntKind.u32.signed = true then (-1 : Int) else IntKind.u32.max) = u32v (BitVec.allOnes 32) := by kernel_rfl
  rw [h, u32_xor, BitVec.allOnes_xor]

set_option maxHeartbeats 8000000 in
set_option maxRecDepth 100000 in
theorem fold_ok (RA : Option Addr) (rc : Nat) (v : V8) (AB : Option Addr) (bc : Nat) (b : List Nat) (ok : Nat → Prop) (w : World) (hr : SeesP w ok RA (v.l.map W32)) (hs : SeesP w ok AB (b.map B8)) (hbl : b.length = 64) (hb : ∀ x ∈ b, x ≤ 255) (hok : ∀ k, ok k → k < w.heap.size) :
    Calls Tryd.prog 39 #[.slice RA 8 rc, .slice AB 64 bc] w fun e w' => ∃ g c f, e = .returned (.slice (some ⟨g, 0, none⟩) 8 c) ∧ Hid (w.heap.size ≤ g ∧ 8 ≤ c ∧ w'.rowIs g 77 c f ∧ (∀ i, i < 8 → f i = W32 ((foldB v b).l.getD i 0)) ∧ Q w w') := by
  obtain ⟨i8, hi8, hz80, hz81, hz82⟩ := info_parts info8
  obtain ⟨i32, hi32, hz320, hz321, hz322⟩ := info_parts info32
  have HR := Lib.hid hr
  have HS := Lib.hid hs
  have HBL := Lib.hid hbl
  have HB := Lib.hid hb
  have HOK := Lib.hid hok
  clear hr hs hbl hb hok
  go_enter Tryd.func39, Tryd.ntmps39
  go_wp2_with (first
    | (go_at_call 50; go_loud ((with_reducible refine (words_ok _).mono ?_); rintro e w1 ⟨rfl, H1⟩))
    | (refine wpList_make_row _ rfl _ _ 78 rfl 77 i32 (.int .u32 0) Tryd.underlying78 hi32 hz320 hz321 rfl .i64 .i64 64 rfl rfl (by rw [hz322]; omega) (by omega) ?_))
  obtain ⟨gk, hgk⟩ : ∃ gk, gk = w.heap.size := ⟨_, rfl⟩
  rw [← hgk] at H1
  rw [← hgk]
  have HGK := Lib.hid hgk
  have HKW : Hid (gk < w1.heap.size) := H1.out.2.lt
  clear hgk
  have H0 : Hid (Q w1 (w1.alloc (.cells (madeCells #[.int .u32 0] 64) 77)) ∧ WRow (w1.alloc (.cells (madeCells #[.int .u32 0] 64) 77)) w1.heap.size b 0) :=
    ⟨(Q.refl _).alloc _, (World.rowIs_made w1 (.int .u32 0) 64 77).congr fun i _ => by simp [wl, W32, u32v]⟩
  go_loopw [7] (fun i wr => ∃ k : Nat, k ≤ 64 ∧ i = .int .i64 k ∧ Hid (Q w1 wr ∧ WRow wr w1.heap.size b k)) (fun i _ => 64 - (intOf i).toNat)
  case atStart => exact ⟨0, by omega, rfl, H0.out⟩
  case round =>
    obtain ⟨k, hk, rfl, HW⟩ := hrel
    have HQ1 : Hid (Q w wr) := H1.out.1.trans' HW.out.1
    by_cases hk64 : k < 64
    · by_cases hk16 : k < 16
      · obtain ⟨m, hm⟩ : ∃ m, m = 4 * k := ⟨_, rfl⟩
        have hsee := HS.out.belowP HOK.out HQ1.out
        have hx := fun (j : Nat) (hj : m + j < 64) => hsee.at_ (k := m + j) (u := B8 (b[m + j]'(by rw [HBL.out]; exact hj))) (by simp [HBL.out, hj])
        obtain ⟨bb, oo, rfl, hbb, c0⟩ := hx 0 (by omega)
        obtain ⟨_, _, e', _, c1⟩ := hx 1 (by omega)
        injection e' with e'; injection e' with e1 e2 _; subst e1 e2
        obtain ⟨_, _, e', _, c2⟩ := hx 2 (by omega)
        injection e' with e'; injection e' with e1 e2 _; subst e1 e2
        obtain ⟨_, _, e', _, c3⟩ := hx 3 (by omega)
        injection e' with e'; injection e' with e1 e2 _; subst e1 e2
        have b0 := HB.out _ (List.getElem_mem (show m + 0 < b.length by rw [HBL.out]; omega))
        have b1 := HB.out _ (List.getElem_mem (show m + 1 < b.length by rw [HBL.out]; omega))
        have b2 := HB.out _ (List.getElem_mem (show m + 2 < b.length by rw [HBL.out]; omega))
        have b3 := HB.out _ (List.getElem_mem (show m + 3 < b.length by rw [HBL.out]; omega))
        have HWD : Hid (wl b (k + 1) = wl b k ++ [wd (b[m + 0]'(by rw [HBL.out]; omega)) (b[m + 1]'(by rw [HBL.out]; omega)) (b[m + 2]'(by rw [HBL.out]; omega)) (b[m + 3]'(by rw [HBL.out]; omega))]) := by
          show _ = _
          rw [wl]
          unfold extW wordAt
          rw [if_pos hk16, ← hm]
          have hg : ∀ (j : Nat) (hj : m + j < b.length), b.getD (m + j) 0 = b[m + j] := fun j hj => by rw [List.getD_eq_getElem?_getD, List.getElem?_eq_getElem hj]; rfl
          rw [hg 1 (by rw [HBL.out]; omega), hg 2 (by rw [HBL.out]; omega), hg 3 (by rw [HBL.out]; omega), ← hg 0 (by rw [HBL.out]; omega)]; rfl
        unfold B8 at c0 c1 c2 c3
        generalize b[m + 0]'(by rw [HBL.out]; omega) = x0 at *
        generalize b[m + 1]'(by rw [HBL.out]; omega) = x1 at *
        generalize b[m + 2]'(by rw [HBL.out]; omega) = x2 at *
        generalize b[m + 3]'(by rw [HBL.out]; omega) = x3 at *
        replace c0 : wr.cell? ⟨bb, oo + m, none⟩ = some (.int .u8 (x0 : Int)) := c0
        have e0 : IntKind.i64.wrap (4 * (k : Int)) = (m : Int) := by rw [IntWalk.i64_in _ (by omega)]; omega
        have e1 : IntKind.i64.wrap ((m : Int) + 1) = ((m + 1 : Nat) : Int) := by rw [IntWalk.i64_in _ (by omega)]; omega
        have e2 : IntKind.i64.wrap ((m : Int) + 2) = ((m + 2 : Nat) : Int) := by rw [IntWalk.i64_in _ (by omega)]; omega
        have e3 : IntKind.i64.wrap ((m : Int) + 3) = ((m + 3 : Nat) : Int) := by rw [IntWalk.i64_in _ (by omega)]; omega
        have l0 : (m : Int) < 64 := by omega
        obtain ⟨m1, hm1⟩ : ∃ m1, m1 = m + 1 := ⟨_, rfl⟩
        obtain ⟨m2, hm2⟩ : ∃ m2, m2 = m + 2 := ⟨_, rfl⟩
        obtain ⟨m3, hm3⟩ : ∃ m3, m3 = m + 3 := ⟨_, rfl⟩
        have l1 : (m1 : Int) < 64 := by omega
        have l2 : (m2 : Int) < 64 := by omega
        have l3 : (m3 : Int) < 64 := by omega
        rw [← hm1] at e1 c1
        rw [← hm2] at e2 c2
        rw [← hm3] at e3 c3
        have HO := Lib.hid (wd_add b0 b1 b2 b3)
        have HBY := Lib.hid (And.intro b0 (And.intro b1 (And.intro b2 b3)))
        have z := HW.out.2.frozen k
        have cw := HW.out.2.cell (i := k) hk64
        replace cw : wr.cell? ⟨w1.heap.size, k, none⟩ = some (.int .u32 (u32v ((wl b k).getD k 0))) := cw
        have p1 : (0 : Int) ≤ (m : Int) := by omega
        clear b0 b1 b2 b3 hx hsee hm hm1 hm2 hm3 hbb
        go_wp2_with fail
        obtain ⟨b0, b1, b2, b3⟩ := HBY.out
        have q0 := u32v_by b0
        have q1 := u32v_by b1
        have q2 := u32v_by b2
        have q3 := u32v_by b3
        have s24 := u32_shlw 24 16777216 (by decide)
        have s16 := u32_shlw 16 65536 (by decide)
        have s8 := u32_shlw 8 256 (by decide)
        have sa := u32_add
        clear b0 b1 b2 b3
        go_still_tail 36, (by kernel_rfl)
        clear q0 q1 q2 q3 s24 s16 s8 sa e0 e1 e2 e3 l0 l1 l2 l3
        have zz : wr.drew.frozen? ⟨w1.heap.size, k, none⟩ = false := z
        have cc : wr.drew.cell? ⟨w1.heap.size, k, none⟩ = some (.int .u32 (u32v ((wl b k).getD k 0))) := cw
        have HD : Hid (Q w1 wr.drew ∧ WRow wr.drew w1.heap.size b k) := ⟨HW.out.1.drew, HW.out.2⟩
        change wpList _ _ _ _ _ wr.drew
        generalize wr.drew = w2 at *
        rw [HO.out]
        clear z cw c0 c1 c2 c3
        go_wp2_with fail
        go_roundw
        case rel => exact ⟨k + 1, by omega, by go_num, HD.out.1.setNew (p := ⟨w1.heap.size, k, none⟩) (Nat.le_refl _) _, wrow_next HD.out.2 HWD.out⟩
        case measure => simp [intOf]; omega
      · have hwl := wl_len b k
        have cell := fun (j : Nat) (hj : j < 64) => HW.out.2.cell (i := j) hj
        have c15 := cell (k - 15) (by omega)
        have c2 := cell (k - 2) (by omega)
        have c16 := cell (k - 16) (by omega)
        have c7 := cell (k - 7) (by omega)
        have ck := cell k hk64
        have z := HW.out.2.frozen k
        have HWD : Hid (wl b (k + 1) = wl b k ++ [(wl b k).getD (k - 16) 0 + sg0 ((wl b k).getD (k - 15) 0) + (wl b k).getD (k - 7) 0 + sg1 ((wl b k).getD (k - 2) 0)]) := by
          show _ = _
          rw [wl]
          unfold extW
          rw [if_neg hk16]
          congr 2
          ac_rfl
        generalize (wl b k).getD (k - 15) 0 = y15 at *
        generalize (wl b k).getD (k - 2) 0 = y2 at *
        generalize (wl b k).getD (k - 16) 0 = y16 at *
        generalize (wl b k).getD (k - 7) 0 = y7 at *
        have d15 : wr.cell? ⟨w1.heap.size, k - 15, none⟩ = some (.int .u32 (u32v y15)) := c15
        have HD2 : Hid (∀ n, (wr.drewN n).cell? ⟨w1.heap.size, k - 2, none⟩ = some (.int .u32 (u32v y2))) := fun _ => c2
        have HD16 : Hid (∀ n, (wr.drewN n).cell? ⟨w1.heap.size, k - 16, none⟩ = some (.int .u32 (u32v y16))) := fun _ => c16
        have HD7 : Hid (∀ n, (wr.drewN n).cell? ⟨w1.heap.size, k - 7, none⟩ = some (.int .u32 (u32v y7))) := fun _ => c7
        have HCK : Hid (∀ n, (wr.drewN n).cell? ⟨w1.heap.size, k, none⟩ = some (.int .u32 (u32v ((wl b k).getD k 0)))) := fun _ => ck
        have HZ : Hid (∀ n, (wr.drewN n).frozen? ⟨w1.heap.size, k, none⟩ = false) := fun _ => z
        have hge : 16 ≤ k := by omega
        have HE2 : Hid (IntKind.i64.wrap ((k : Int) - 2) = ((k - 2 : Nat) : Int)) := by show _ = _; rw [IntWalk.i64_in _ (by omega)]; omega
        have HE16 : Hid (IntKind.i64.wrap ((k : Int) - 16) = ((k - 16 : Nat) : Int)) := by show _ = _; rw [IntWalk.i64_in _ (by omega)]; omega
        have HE7 : Hid (IntKind.i64.wrap ((k : Int) - 7) = ((k - 7 : Nat) : Int)) := by show _ = _; rw [IntWalk.i64_in _ (by omega)]; omega
        clear cell c15 c2 c16 c7 hwl ck z
        go_wp2_with fail
        have e15 : IntKind.i64.wrap ((k : Int) - 15) = ((k - 15 : Nat) : Int) := by rw [IntWalk.i64_in _ (by omega)]; omega
        have n15 : ((k - 15 : Nat) : Int) < 64 := by omega
        have sx := u32_xor
        have h3 := fun x => u32_shrm x 3 8 (by decide)
        go_quiet ((go_at_call 51; exact quiet_more (right_any _ _ (by decide) _)))
        clear e15 n15 h3 d15
        have d2 := HD2.out nq
        have HW2 : Hid (Q w1 (wr.drewN nq) ∧ WRow (wr.drewN nq) w1.heap.size b k) := ⟨HW.out.1.drewN _, HW.out.2⟩
        replace HD16 := Lib.hid (fun n => HD16.out (nq + n))
        replace HD7 := Lib.hid (fun n => HD7.out (nq + n))
        replace HCK := Lib.hid (fun n => HCK.out (nq + n))
        replace HZ := Lib.hid (fun n => HZ.out (nq + n))
        simp only [← World.drewN_drewN] at HD16 HD7 HCK HZ
        clear HD2 HW
        generalize wr.drewN nq = w5 at *
        go_wp2_with fail
        have e2 := HE2.out
        have n2 : ((k - 2 : Nat) : Int) < 64 := by omega
        have h10 := fun x => u32_shrm x 10 1024 (by decide)
        go_quiet ((go_at_call 51; exact quiet_more (right_any _ _ (by decide) _)))
        clear e2 n2 h10 sx d2
        have f16 := HD16.out nq
        have f7 := HD7.out nq
        have fz := HZ.out nq
        have fk := HCK.out nq
        have HW3 : Hid (Q w1 (w5.drewN nq) ∧ WRow (w5.drewN nq) w1.heap.size b k) := ⟨HW2.out.1.drewN _, HW2.out.2⟩
        clear HD16 HD7 HZ HCK HW2
        generalize w5.drewN nq = w6 at *
        go_wp2_with fail
        have e16 := HE16.out
        have e7 := HE7.out
        have n16 : ((k - 16 : Nat) : Int) < 64 := by omega
        have n7 : ((k - 7 : Nat) : Int) < 64 := by omega
        have sa := u32_add
        go_still_tail 18, (by kernel_rfl)
        clear e16 e7 n16 n7 sa
        have zz : w6.drew.frozen? ⟨w1.heap.size, k, none⟩ = false := fz
        have cc : w6.drew.cell? ⟨w1.heap.size, k, none⟩ = some (.int .u32 (u32v ((wl b k).getD k 0))) := fk
        have HD : Hid (Q w1 w6.drew ∧ WRow w6.drew w1.heap.size b k) := ⟨HW3.out.1.drew, HW3.out.2⟩
        change wpList _ _ _ _ _ w6.drew
        generalize w6.drew = w7 at *
        clear f16 f7 fz fk
        go_wp2_with fail
        go_roundw
        case rel => exact ⟨k + 1, by omega, by go_num, HD.out.1.setNew (p := ⟨w1.heap.size, k, none⟩) (Nat.le_refl _) _, wrow_next HD.out.2 HWD.out⟩
        case measure => simp [intOf]; omega
    · have hk64' : k = 64 := by omega
      have HWL : Hid (WRow wr w1.heap.size b 64) := by have h := HW.out.2; rw [hk64'] at h; exact h
      have HQW : Hid (Q w1 wr) := HW.out.1
      clear hk64' HW
      obtain ⟨ra, ro, rfl, hra, hrc⟩ := HR.out (by simp [V8.l])
      obtain ⟨wo, rfl⟩ : ∃ wo : World, wo = wr := ⟨_, rfl⟩
      have HOWN : Hid ((wo.alloc (.cells #[] 77)).ownsRow wo.heap.size 77 1 (.slice (some ⟨wo.heap.size, 0, none⟩) 0 0) 0 []) := own_new wo 77 [] (by simp)
      have HRS : Hid (SeesP (wo.alloc (.cells #[] 77)) ok (some ⟨ra, ro, none⟩) (v.l.map W32)) := (HR.out.belowP HOK.out HQ1.out).alloc (fun k hk => Nat.lt_of_lt_of_le (HOK.out k hk) HQ1.out.size) _
      clear hra hrc
      go_wp2_with (at_builtin; go_loud (refine wpList_append_row rfl (.tmp 120) (.tmp 121) 78 rfl wo.heap.size 77 i32 _ 4 Tryd.underlying78 hi32 hz320 hz321 hz322 rfl _ 0 [] rfl HOWN.out ok (some ⟨ra, ro, none⟩) 8 rc (v.l.map W32) rfl (fun h => by cases h) rfl HRS.out (by intro u hu; simp [V8.l] at hu; rcases hu with rfl | rfl | rfl | rfl | rfl | rfl | rfl | rfl <;> rfl) (by unfold maxLen; omega) (by omega) (by simp) ?_; intro v1 w3 hown1 hgr1; replace hown1 : w3.ownsRow wo.heap.size 77 1 v1 8 ([] ++ v.l.map W32) := hown1; have H3 := Lib.hid (And.intro hown1 (Grew.q hgr1 ((Q.refl wo).alloc (.cells #[] 77)) HOWN.out)); clear hown1 hgr1))
      obtain ⟨g3, c3, f3, rfl, hg3, hgl3, hn3, hr3, hf3⟩ := own_row H3.out.1 (by rintro rfl; have := H3.out.1.1; simp at this; have h := H3.out.1.2; rcases h with ⟨_, h⟩ | ⟨_, _, _, h, _⟩ <;> cases h)
      have HV0 : Hid (VR w3 wo.heap.size g3 c3 (rnds v (wl b 64) 0)) := ⟨hg3, hn3, f3, hr3, fun i hi => by
        refine hf3 i _ ?_
        rw [List.nil_append, List.getElem?_map, List.getElem?_eq_getElem (show i < v.l.length from hi), Option.map_some]
        show _ = some (W32 (v.l.getD i 0))
        rw [List.getD_eq_getElem?_getD, List.getElem?_eq_getElem (show i < v.l.length from hi)]; rfl⟩
      have HQ3 : Hid (Q wo w3) := H3.out.2
      clear H3 hg3 hgl3 hn3 hr3 hf3
      go_wp2_with fail
      clear hk hk64
      go_loopw [10, 11] (fun u i wr => ∃ k g c : Nat, k ≤ 64 ∧ u = .slice (some ⟨g, 0, none⟩) 8 c ∧ i = .int .i64 k ∧ Hid (Q wo wr ∧ VR wr wo.heap.size g c (rnds v (wl b 64) k))) (fun _ i _ => 64 - (intOf i).toNat)
      case atStart => exact ⟨0, g3, c3, by omega, rfl, rfl, HQ3.out, HV0.out⟩
      case round =>
        obtain ⟨k, g, c, hk, rfl, rfl, HX⟩ := hrel
        by_cases hk64 : k < 64
        · have HRD : Hid (Rd wo wr g c (rnds v (wl b 64) k) gk w1.heap.size k (K256.getD k 0) ((wl b 64).getD k 0)) :=
            ⟨HX.out.1, HX.out.2, ((row_q (HQW.out.trans' HX.out.1) H1.out.2).cell (i := k) hk64), ((row_q HX.out.1 HWL.out).cell (i := k) hk64)⟩
          have HNX : Hid (rnds v (wl b 64) (k + 1) = rnd (rnds v (wl b 64) k) (K256.getD k 0) ((wl b 64).getD k 0)) := rfl
          generalize rnds v (wl b 64) k = V at *
          generalize (wl b 64).getD k 0 = xk at *
          generalize K256.getD k 0 = kk at *
          obtain ⟨va, vb, vc, vd, ve, vf, vg, vh⟩ := V
          clear HX
          have hc8 := HRD.out.v.le
          obtain ⟨ca, cb, cc, cd, ce, cf, cg, ch⟩ := HRD.out.v.cells
          simp only at ca cb cc cd ce cf cg ch
          go_wp2_with fail
          have sx := u32_xor
          go_quiet ((go_at_call 51; exact quiet_more (right_any _ _ (by decide) _)))
          clear ca cb cc cd ce cf cg ch
          replace HRD := Lib.hid (HRD.out.drewN nq)
          generalize wr.drewN nq = w5 at *
          obtain ⟨ca, cb, cc, cd, ce, cf, cg, ch⟩ := HRD.out.v.cells
          simp only at ca cb cc cd ce cf cg ch
          go_wp2_with fail
          go_quiet ((go_at_call 51; exact quiet_more (right_any _ _ (by decide) _)))
          clear ca cb cc cd ce cf cg ch
          replace HRD := Lib.hid (HRD.out.drewN nq)
          generalize w5.drewN nq = w6 at *
          obtain ⟨ca, cb, cc, cd, ce, cf, cg, ch⟩ := HRD.out.v.cells
          simp only at ca cb cc cd ce cf cg ch
          have sn := u32_and
          have su := u32_not
          go_wp2_with fail
          go_quiet (fail)
          clear ca cb cc cd ce cf cg ch su
          rw [chz_doc]
          generalize hc1 : chz ve vf vg = c1
          have HC1 := Lib.hid hc1
          clear hc1
          replace HRD := Lib.hid (HRD.out.drewN nq)
          generalize w6.drewN nq = w7 at *
          obtain ⟨ca, cb, cc, cd, ce, cf, cg, ch⟩ := HRD.out.v.cells
          simp only at ca cb cc cd ce cf cg ch
          go_wp2_with fail
          go_quiet (fail)
          clear ca cb cc cd ce cf cg ch sx sn
          rw [mjz_doc]
          generalize hm1 : mjz va vb vc = m1
          generalize hs1 : rotr ve 6 ^^^ rotr ve 11 ^^^ rotr ve 25 = s1
          generalize hs0 : rotr va 2 ^^^ rotr va 13 ^^^ rotr va 22 = s0
          have HM1 := Lib.hid (And.intro hm1 (And.intro (show bs1 ve = s1 from hs1) (show bs0 va = s0 from hs0)))
          clear hm1 hs1 hs0
          replace HRD := Lib.hid (HRD.out.drewN nq)
          generalize w7.drewN nq = w8 at *
          obtain ⟨ca, cb, cc, cd, ce, cf, cg, ch⟩ := HRD.out.v.cells
          simp only at ca cb cc cd ce cf cg ch
          have ck := HRD.out.ck
          have cw := HRD.out.cw
          have sa := u32_addm
          go_wp2_with fail
          go_quiet (fail)
          clear ca cb cc cd ce cf cg ch ck cw sa
          rw [u32_addm]
          generalize hT : vh + s1 + c1 + kk + xk = tt
          have HT : Hid (t1 ⟨va, vb, vc, vd, ve, vf, vg, vh⟩ kk xk = tt) := by show vh + bs1 ve + chz ve vf vg + kk + xk = tt; rw [HM1.out.2.1, HC1.out]; exact hT
          clear hT
          replace HRD := Lib.hid (HRD.out.drewN nq)
          generalize w8.drewN nq = w9 at *
          obtain ⟨ca, cb, cc, cd, ce, cf, cg, ch⟩ := HRD.out.v.cells
          simp only at ca cb cc cd ce cf cg ch
          have sa := u32_add
          go_wp2_with fail
          go_still_tail 28, (by kernel_rfl)
          clear ca cb cc cd ce cf cg ch sa
          change wpList _ _ _ _ _ w9.drew
          replace HRD := Lib.hid HRD.out.drew
          generalize w9.drew = wa at *
          go_wp2_with fail
          go_roundw
          case rel => exact ⟨k + 1, wa.heap.size, 8, by omega, rfl, by go_num, HRD.out.q.alloc _, by
            rw [HNX.out]
            have h := (VR.new wa ⟨tt + s0 + m1, va, vb, vc, vd + tt, ve, vf, vg⟩).base HRD.out.q.size
            unfold rnd
            rw [HT.out]
            simp only
            rw [HM1.out.1, HM1.out.2.2, ← BitVec.add_assoc]
            exact h⟩
          case measure => simp [intOf]; omega
        · have hk64' : k = 64 := by omega
          rw [hk64'] at HX
          clear hk64'
          have HQX : Hid (Q w wr) := (HQ1.out.trans' HX.out.1)
          have HQY : Hid (Q wo wr) := HX.out.1
          have HVX : Hid (VR wr wo.heap.size g c (rnds v (wl b 64) 64)) := HX.out.2
          have HRX : Hid (SeesP wr ok (some ⟨ra, ro, none⟩) (v.l.map W32)) := HR.out.belowP HOK.out HQX.out
          clear HX
          go_wp2_with fail
          have HFB : Hid (foldB v b = v.add (rnds v (wl b 64) 64)) := rfl
          generalize rnds v (wl b 64) 64 = U at *
          obtain ⟨f0, hf0r, hf0⟩ := HVX.out.row
          have hc8 := HVX.out.le
          have HGE := Lib.hid HVX.out.ge
          have HE0 : Hid (∃ f, wr.rowIs g 77 c f ∧ (∀ i, i < 8 → f i = W32 (if i < 0 then v.l.getD i 0 + U.l.getD i 0 else U.l.getD i 0)) ∧ Q wo wr) := ⟨f0, hf0r, fun i hi => by rw [if_neg (by omega)]; exact hf0 i hi, HQY.out⟩
          clear HQX HVX HRX hf0r hf0 f0
          go_loopw [17] (fun i wr => ∃ k : Nat, k ≤ 8 ∧ i = .int .i64 k ∧ Hid (∃ f, wr.rowIs g 77 c f ∧ (∀ i, i < 8 → f i = W32 (if i < k then v.l.getD i 0 + U.l.getD i 0 else U.l.getD i 0)) ∧ Q wo wr)) (fun i _ => 8 - (intOf i).toNat)
          case atStart => exact ⟨0, by omega, rfl, HE0.out⟩
          case round =>
            obtain ⟨j, hj, rfl, HE⟩ := hrel
            obtain ⟨f, hfr, hfv, hfq⟩ := HE.out
            have HF := Lib.hid (And.intro hfr (And.intro hfv hfq))
            clear hfr hfv hfq HE
            have HRX : Hid (SeesP wr ok (some ⟨ra, ro, none⟩) (v.l.map W32)) := HR.out.belowP HOK.out (HQ1.out.trans' HF.out.2.2)
            by_cases hj8 : j < 8
            · have cu : wr.cell? ⟨g, j, none⟩ = some (.int .u32 (u32v (U.l.getD j 0))) := by rw [HF.out.1.cell (i := j) (by omega), HF.out.2.1 j hj8, if_neg (by omega)]; rfl
              have cv : wr.cell? ⟨ra, ro + j, none⟩ = some (.int .u32 (u32v (v.l.getD j 0))) := by
                obtain ⟨_, _, e', _, h⟩ := HRX.out.at_ (k := j) (u := W32 (v.l.getD j 0)) (by rw [List.getElem?_map, List.getElem?_eq_getElem (show j < v.l.length from hj8), List.getD_eq_getElem?_getD, List.getElem?_eq_getElem (show j < v.l.length from hj8)]; rfl)
                injection e' with e'; injection e' with e1 e2 _; subst e1 e2
                exact h
              have z := HF.out.1.frozen j
              have HNX : Hid (∀ i, i < 8 → (fun i => if i = j then W32 (U.l.getD j 0 + v.l.getD j 0) else f i) i = W32 (if i < j + 1 then v.l.getD i 0 + U.l.getD i 0 else U.l.getD i 0)) := fun i hi => by
                show (if i = j then _ else _) = _
                by_cases h : i = j
                · subst h; rw [if_pos rfl, if_pos (by omega), BitVec.add_comm]
                · rw [if_neg h, HF.out.2.1 i hi]
                  by_cases h2 : i < j
                  · rw [if_pos h2, if_pos (by omega)]
                  · rw [if_neg h2, if_neg (by omega)]
              generalize U.l.getD j 0 = xu at *
              generalize v.l.getD j 0 = xv at *
              have zz : wr.drew.frozen? ⟨g, j, none⟩ = false := z
              have cc : wr.drew.cell? ⟨g, j, none⟩ = some (.int .u32 (u32v xu)) := cu
              have HD : Hid (wr.drew.rowIs g 77 c f ∧ Q wo wr.drew) := ⟨HF.out.1, HF.out.2.2.drew⟩
              go_wp2_with fail
              have sa := u32_add
              go_still_tail 12, (by kernel_rfl)
              clear sa z cu cv
              change wpList _ _ _ _ _ wr.drew
              generalize wr.drew = w5 at *
              go_wp2_with fail
              go_roundw
              case rel => exact ⟨j + 1, by omega, by go_num, _, HD.out.1.set j (.int .u32 (u32v (xu + xv))), HNX.out, HD.out.2.setNew (p := ⟨g, j, none⟩) HGE.out _⟩
              case measure => simp [intOf]; omega
            · have hj8' : j = 8 := by omega
              have HFE : Hid (∀ i, i < 8 → f i = W32 ((foldB v b).l.getD i 0)) := fun i hi => by
                rw [HF.out.2.1 i hi, if_pos (by omega), HFB.out, add_get v U i hi]
              clear hj8'
              go_wp2_with fail
              go_ret
              exact ⟨g, c, f, rfl, Nat.le_trans (HQ1.out.size) HGE.out, hc8, HF.out.1, HFE.out, HQ1.out.trans' HF.out.2.2⟩
end Go.Proofs.YtcdbffgmgfblkaaDoor
