/- The walk through the document's Of. -/
import Derived.Test.YtcdbffgmgfblkaaDoorShaR
import Derived.Test.YtcdbffgmgfblkaaDoorShaB
import Derived.Test.YtcdbffgmgfblkaaDoorShaL
import Derived.Test.YtcdbffgmgfblkaaDoorApd
import Derived.Deep.RegionHeld3
namespace Go.Proofs.YtcdbffgmgfblkaaDoor
set_option linter.unusedVariables false
set_option linter.unusedSimpArgs false
open Go.RowKit

/-- While blocks are folded. -/
structure Fl (w0 w : World) (A : Option Addr) (l z g rc : Nat) (M : List Nat) (V T : V8) : Prop where
  q : Q w0 w
  len : M.length = l
  cap : l ≤ z
  max : z ≤ maxLen
  small : l ≤ 1000200
  sees : SeesP w (fun k => w0.heap.size ≤ k ∧ k < w.heap.size) A (M.map B8)
  byte : ∀ x ∈ M, x ≤ 255
  reg : VR w w0.heap.size g rc V
  sum : regs V M = T
  whole : l % 64 = 0
theorem VR.sees {w : World} {base g c : Nat} {V : V8} (h : VR w base g c V) : SeesP w (fun k => base ≤ k ∧ k < w.heap.size) (some ⟨g, 0, none⟩) (V.l.map W32) := fun _ => by
  have hlt := World.block_lt_of_cell? w _ (h.cell 0 (by omega))
  refine ⟨g, 0, rfl, ⟨h.ge, hlt⟩, fun j u hu => ?_⟩
  rw [List.getElem?_map, Option.map_eq_some_iff] at hu
  obtain ⟨x, hx, rfl⟩ := hu
  have hj : j < 8 := (List.getElem?_eq_some_iff.1 hx).1
  rw [Nat.zero_add, h.cell j hj, List.getD_eq_getElem?_getD, hx]; rfl

theorem outV_next4 (v : V8) {k : Nat} (hk : k < 8) : (outV v).take (4 * (k + 1)) = (outV v).take (4 * k) ++ outW (v.l.getD k 0) := by
  match k, hk with
  | 0, _ | 1, _ | 2, _ | 3, _ | 4, _ | 5, _ | 6, _ | 7, _ => rfl
theorem outW_parts (x : Wd) : ∃ b0 b1 b2 b3 : Nat, outW x = [b0, b1, b2, b3] ∧ IntKind.u8.wrap (u32v x / 16777216) = (b0 : Int) ∧ IntKind.u8.wrap (u32v x / 65536) = (b1 : Int) ∧ IntKind.u8.wrap (u32v x / 256) = (b2 : Int) ∧ IntKind.u8.wrap (u32v x) = (b3 : Int) := by
  refine ⟨_, _, _, _, rfl, ?_, ?_, ?_, ?_⟩ <;> simp [IntKind.wrap, IntKind.bits, IntKind.signed, u32v, BitVec.toNat_ushiftRight, Nat.shiftRight_eq_div_pow]
theorem sees_four (w : World) (a b c d : Value) (t : TypeId) : SeesP (w.alloc (.cells #[a, b, c, d] t)) (fun _ => True) (some ⟨w.heap.size, 0, none⟩) [a, b, c, d] := fun _ => by
  refine ⟨w.heap.size, 0, rfl, trivial, fun j u hu => ?_⟩
  match j, hu with
  | 0, hu => simp at hu; subst hu; go_simp
  | 1, hu => simp at hu; subst hu; go_simp
  | 2, hu => simp at hu; subst hu; go_simp
  | 3, hu => simp at hu; subst hu; go_simp

set_option maxHeartbeats 8000000 in
set_option maxRecDepth 100000 in
theorem refOf_ok (L : List Nat) (hb : ∀ x ∈ L, x ≤ 255) (hl : L.length ≤ 1000000) (w : World) : Calls Tryd.prog 15 #[.string (strB L)] w fun e w' => e = .returned (.string (strB (sha L))) ∧ Hid (Q w w') := by
  obtain ⟨i8, hi8, hz80, hz81, hz82⟩ := info_parts info8
  obtain ⟨n, hn⟩ : ∃ n, n = L.length := ⟨_, rfl⟩
  have hsz : (strB L).size = n := by rw [strB_size, hn]
  obtain ⟨cap, hsp, hcs, hcap⟩ := Spr.bytes (w := w) (strB L) (by omega)
  rw [bytesOf_strB hb] at hsp
  have kb : (convert 9 22 (.string (strB L))).run Tryd.prog w = .ok (.slice (some ⟨w.heap.size, 0, none⟩) n cap) (Go.Lib.bytesWorld w 5 (strB L)) := by
    rw [Go.Lib.run_convert_string_bytes w 9 22 5 (strB L) Tryd.underlying9 Tryd.underlying22 Tryd.underlying5, hcap, hsz]
  have HQ0 : Hid (Q w (Go.Lib.bytesWorld w 5 (strB L))) := by
    obtain ⟨_, _, hr, _, hq, _⟩ := run_bytes_str (P := Tryd.prog) w 9 22 5 (strB L) Tryd.underlying9 Tryd.underlying22 Tryd.underlying5
    rw [kb] at hr
    injection hr with _ hr
    rw [hr]; exact hq
  have HSP := Lib.hid hsp
  have HB := Lib.hid hb
  have HN := Lib.hid hn
  clear hsp hcs hcap hb hsz
  rw [← hn] at hl
  clear hn
  generalize Go.Lib.bytesWorld w 5 (strB L) = w0 at *
  have HS1 : Hid (Spr (w0.alloc (.cells #[.int .u8 128] 5)) w.heap.size w.heap.size cap (L.map B8)) := by
    obtain ⟨a1, a2, a3, a4, a5, a6⟩ := HSP.out
    exact ⟨a1, by rw [alloc_size]; omega, a3, a4, fun j u hu => by rw [World.cell?_alloc_lt w0 _ _ a2]; exact a5 j u hu, fun j hj => by rw [World.cell?_alloc_lt w0 _ _ a2]; exact ⟨(a6 j hj).1, by have := (a6 j hj).2; simp only [World.frozen?, World.alloc] at this ⊢; rw [Array.getElem?_push, if_neg (by show ¬ w.heap.size = _; omega)]; exact this⟩⟩
  go_enter Tryd.func15, Tryd.ntmps15
  go_wp2_with (at_builtin; go_loud (refine wpList_append_spr rfl (.tmp 10) (.tmp 11) 22 rfl 5 i8 _ Tryd.underlying22 hi8 hz80 hz81 hz82 rfl w.heap.size w.heap.size cap n (L.map B8) rfl HS1.out (by rw [List.length_map, HN.out]) ⟨w0.heap.size, 0, none⟩ 1 (.int .u8 128) rfl (one_cell w0 (.int .u8 128) 5 0 _ rfl) rfl (by omega) (by have := HQ0.out.size; rw [alloc_size]; omega) ?_; intro g1 c1 w1 hs1 hq1; have H1 := Lib.hid (And.intro hs1 (hq1 w (Nat.le_refl _) (HQ0.out.alloc _))); clear hs1 hq1))
  have H0 : Hid (Spr w1 w.heap.size g1 c1 ((L ++ [128] ++ List.replicate 0 0).map B8) ∧ Q w w1) := by
    have h := H1.out
    rw [List.replicate_zero, List.append_nil, List.map_append]; exact h
  clear H1
  go_loopw [3] (fun b wr => ∃ k g c : Nat, k ≤ noughts n ∧ b = .slice (some ⟨g, 0, none⟩) (n + 1 + k) c ∧ Hid (Spr wr w.heap.size g c ((L ++ [128] ++ List.replicate k 0).map B8) ∧ Q w wr)) (fun b _ => noughts n + n + 1 - (match b with | .slice _ m _ => m | _ => 0))
  case atStart => exact ⟨0, g1, c1, by omega, rfl, H0.out⟩
  case round =>
    obtain ⟨k, g, c, hk, rfl, HW⟩ := hrel
    have hno : noughts n < 64 := by unfold noughts; omega
    have hnx := noughts_next hk
    obtain ⟨m, hm⟩ : ∃ m, m = n + 1 + k := ⟨_, rfl⟩
    have HM := Lib.hid hm
    rw [← hm] at hnx ⊢
    have hm2 : m ≤ 1000065 := by omega
    have ht : (m : Int).tmod 64 = ((m % 64 : Nat) : Int) := by rw [Int.tmod_eq_emod_of_nonneg (by omega)]; omega
    have hmk : n + 1 + noughts n - m = noughts n - k := by omega
    have HK2 := Lib.hid (And.intro hk hno)
    clear hm hk hno
    by_cases hkn : k = noughts n
    · have h56 : ((m % 64 : Nat) : Int) = 56 := by omega
      obtain ⟨r, hr⟩ : ∃ r, r = m % 64 := ⟨_, rfl⟩
      rw [← hr] at ht h56
      rw [hkn] at HW
      have HMN : Hid (m = n + 1 + noughts n) := by show _ = _; rw [HM.out, hkn]
      clear hkn hr hnx HK2 hmk
      obtain ⟨P, hP⟩ : ∃ P, P = L ++ [128] ++ List.replicate (noughts n) 0 := ⟨_, rfl⟩
      rw [← hP] at HW
      have HP := Lib.hid hP
      clear hP
      have hsz : (strB L).size = n := by rw [strB_size]; exact HN.out.symm
      have u1 : IntKind.u64.wrap (n : Int) = (n : Int) := by simp [IntKind.wrap, IntKind.bits, IntKind.signed]; omega
      have u8' : IntKind.u64.wrap ((n : Int) * 8) = (n : Int) * 8 := by simp [IntKind.wrap, IntKind.bits, IntKind.signed]; omega
      go_wp2_with fail
      clear ht h56 u1 u8' hsz
      have HM2 : Hid (P.length = m) := by show _ = _; rw [HP.out, List.length_append, List.length_append, List.length_replicate, List.length_singleton]; have := HN.out; have := HMN.out; omega
      have H02 : Hid (Spr wr w.heap.size g c ((P ++ (lenB (8 * n)).take 0).map B8) ∧ Q w wr) := by rw [List.take_zero, List.append_nil]; exact HW.out
      go_loopw [3, 5] (fun b s wr => ∃ t g c : Nat, t ≤ 8 ∧ b = .slice (some ⟨g, 0, none⟩) (m + t) c ∧ s = .int .i64 (56 - 8 * (t : Int)) ∧ Hid (Spr wr w.heap.size g c ((P ++ (lenB (8 * n)).take t).map B8) ∧ Q w wr)) (fun _ s _ => (intOf s + 8).toNat)
      case atStart => exact ⟨0, g, c, by omega, rfl, rfl, H02.out⟩
      case round =>
        obtain ⟨t, g2, c2, ht, rfl, rfl, HX⟩ := hrel
        by_cases ht8 : t < 8
        · have hy := lenB_get (8 * n) t ht8
          have hyI : (n : Int) * 8 / 2 ^ (56 - 8 * t) % 256 = (((8 * n) / 2 ^ (56 - 8 * t) % 256 : Nat) : Int) := by push_cast; rw [Int.mul_comm]
          obtain ⟨y, hyy⟩ : ∃ y, y = (8 * n) / 2 ^ (56 - 8 * t) % 256 := ⟨_, rfl⟩
          rw [← hyy] at hy hyI
          have HY := Lib.hid hy
          clear hy hyy
          have HLT : Hid (((lenB (8 * n)).take t).length = t) := by show _ = _; rw [List.length_take]; have : (lenB (8 * n)).length = 8 := rfl; omega
          obtain ⟨q, hq⟩ : ∃ q, q = m + t := ⟨_, rfl⟩
          have HQM := Lib.hid hq
          rw [← hq]
          have hq2 : q ≤ 1000100 := by omega
          clear hq
          have HSA : Hid (Spr (wr.alloc (.cells #[.int .u8 ((n : Int) * 8 / 2 ^ (56 - 8 * t) % 256)] 5)) w.heap.size g2 c2 ((P ++ (lenB (8 * n)).take t).map B8)) := by
            obtain ⟨a1, a2, a3, a4, a5, a6⟩ := HX.out.1
            exact ⟨a1, by rw [alloc_size]; omega, a3, a4, fun j u hu => by rw [World.cell?_alloc_lt wr _ _ a2]; exact a5 j u hu, fun j hj => by rw [World.cell?_alloc_lt wr _ _ a2]; exact ⟨(a6 j hj).1, by have := (a6 j hj).2; simp only [World.frozen?, World.alloc] at this ⊢; rw [Array.getElem?_push, if_neg (by show ¬ g2 = _; omega)]; exact this⟩⟩
          have HYI := Lib.hid hyI
          clear hyI
          go_wp2_with (at_builtin; go_loud (refine wpList_append_spr rfl (.tmp 28) (.tmp 33) 22 rfl 5 i8 _ Tryd.underlying22 hi8 hz80 hz81 hz82 rfl w.heap.size g2 c2 q _ rfl HSA.out (by rw [List.length_map, List.length_append, HM2.out, HLT.out, HQM.out]) ⟨wr.heap.size, 0, none⟩ 1 (.int .u8 ((n : Int) * 8 / 2 ^ (56 - 8 * t) % 256)) rfl (one_cell wr (.int .u8 ((n : Int) * 8 / 2 ^ (56 - 8 * t) % 256)) 5 0 _ rfl) rfl (by omega) (by have := HX.out.2.size; rw [alloc_size]; omega) ?_; intro g3 c3 w3 hs3 hq3; have H3 := Lib.hid (And.intro hs3 (hq3 w (Nat.le_refl _) (HX.out.2.alloc _))); clear hs3 hq3))
          go_roundw
          case rel => exact ⟨t + 1, g3, c3, by omega, by rw [HQM.out]; rfl, by go_num, by
            have h := H3.out
            have h2 : (P ++ (lenB (8 * n)).take t).map B8 ++ [.int .u8 ((n : Int) * 8 / 2 ^ (56 - 8 * t) % 256)] = (P ++ (lenB (8 * n)).take (t + 1)).map B8 := by rw [HYI.out, HY.out]; simp [B8]
            rw [h2] at h
            exact h⟩
          case measure => simp [intOf]; omega
        · have ht8' : t = 8 := by omega
          rw [ht8'] at HX
          have HPAD : Hid (P ++ (lenB (8 * n)).take 8 = padded L) := by show _ = _; rw [HP.out, HN.out]; rfl
          rw [HPAD.out] at HX
          obtain ⟨q, hq⟩ : ∃ q, q = m + t := ⟨_, rfl⟩
          rw [← hq]
          have HQL : Hid ((padded L).length = q) := by show _ = _; rw [← HPAD.out, List.length_append, HM2.out, hq, ht8']; rfl
          clear ht8' hq H02 H0 HSP HS1
          have hc2 := HX.out.1.le
          rw [List.length_map, HQL.out] at hc2
          have hcm := HX.out.1.max
          go_wp2_with fail
          have hq2 : q ≤ 1000200 := by have := HMN.out; have : noughts n < 64 := Nat.mod_lt _ (by omega); have h := HQL.out; unfold padded at h; have h8 : (lenB (8 * L.length)).length = 8 := rfl; rw [List.length_append, List.length_append, List.length_append, List.length_replicate, List.length_singleton, h8, ← HN.out] at h; omega
          have HFL : Hid (Fl w (wr.alloc (.cells #[.int .u32 1779033703, .int .u32 3144134277, .int .u32 1013904242, .int .u32 2773480762, .int .u32 1359893119, .int .u32 2600822924, .int .u32 528734635, .int .u32 1541459225] 77)) (some ⟨g2, 0, none⟩) q c2 wr.heap.size 8 (padded L) h256 (regs h256 (padded L))) :=
            ⟨HX.out.2.alloc _, HQL.out, hc2, hcm, hq2, (HX.out.1.sees.alloc (fun b hb => by rw [hb]; exact HX.out.1.lt) _).more (fun b hb => by subst hb; exact ⟨HX.out.1.ge, by rw [alloc_size]; have := HX.out.1.lt; omega⟩), padded_byte HB.out, (VR.new wr h256).base HX.out.2.size, rfl, by rw [← HQL.out]; exact padded_len L⟩
          clear HX
          go_loopw [3, 6] (fun b r wr => ∃ (A : Option Addr) (l z g rc : Nat) (M : List Nat) (V : V8), b = .slice A l z ∧ r = .slice (some ⟨g, 0, none⟩) 8 rc ∧ Hid (Fl w wr A l z g rc M V (regs h256 (padded L)))) (fun b _ _ => match b with | .slice _ m _ => m | _ => 0)
          case atStart => exact ⟨_, _, _, _, _, _, _, rfl, rfl, HFL.out⟩
          case round =>
            obtain ⟨A, l, z, g3, rc, M, V, rfl, rfl, HF⟩ := hrel
            by_cases hl0 : 0 < l
            · have hw64 := HF.out.whole
              have hl64 : 64 ≤ l := by omega
              have hlz : 64 ≤ z := Nat.le_trans hl64 HF.out.cap
              have hlen := HF.out.len
              have HFO := Lib.hid (fold_ok (some ⟨g3, 0, none⟩) rc V A z (M.take 64) (fun k => w.heap.size ≤ k ∧ k < wr.heap.size) wr HF.out.reg.sees (by rw [List.map_take]; exact HF.out.sees.take 64) (by rw [List.length_take]; omega) (fun x hx => HF.out.byte x (List.mem_of_mem_take hx)) (fun k hk => hk.2))
              have HLZ := Lib.hid (And.intro hl64 (And.intro hlz hlen))
              have HSM := Lib.hid HF.out.small
              clear hw64 hlen
              go_wp2_with (first
                | (refine gate 41 rfl ?_; refine wpList_slice_hi rfl 22 (.tmp 40) (.const (.int .i64 64)) rfl 5 Tryd.underlying22 i8 hi8 A l z rfl .i64 64 rfl HLZ.out.2.1 ?_)
                | (go_at_call 39; go_loud ((with_reducible refine HFO.out.mono ?_); rintro e w5 ⟨g5, c5, f5, rfl, H5⟩))
                | (refine gate 44 rfl ?_; refine wpList_slice_lo rfl 22 (.tmp 43) (.const (.int .i64 64)) rfl 5 Tryd.underlying22 i8 hi8 1 hz81 A l z rfl .i64 64 rfl HLZ.out.1 ?_))
              go_roundw
              case rel => exact ⟨_, _, _, _, _, M.drop 64, foldB V (M.take 64), rfl, rfl, HF.out.q.trans' H5.out.2.2.2.2, by rw [List.length_drop, HLZ.out.2.2], by have := HF.out.cap; omega, by have := HF.out.max; omega, by have := HSM.out; omega,
                by
                  have h := (HF.out.sees.belowP (fun k hk => hk.2) H5.out.2.2.2.2).more (ok' := fun k => w.heap.size ≤ k ∧ k < w5.heap.size) (fun k hk => ⟨hk.1, Nat.lt_of_lt_of_le hk.2 H5.out.2.2.2.2.size⟩)
                  have h2 := h.cut (c := z) (l := 64) (s := 1) (by rw [List.length_map, HLZ.out.2.2]; have := HF.out.cap; omega)
                  rw [Nat.mul_one, ← List.map_drop] at h2
                  exact h2,
                fun x hx => HF.out.byte x (List.mem_of_mem_drop hx), ⟨Nat.le_trans HF.out.q.size H5.out.1, H5.out.2.1, f5, H5.out.2.2.1, H5.out.2.2.2.1⟩, by rw [← regs_block V M (by rw [HLZ.out.2.2]; exact HLZ.out.1)]; exact HF.out.sum, by have := HF.out.whole; omega⟩
              case measure => simp; omega
            · have hl0' : l = 0 := by omega
              have HV : Hid (V = regs h256 (padded L)) := by
                have h1 := HF.out.sum
                have h2 : M = [] := List.eq_nil_of_length_eq_zero (by rw [HF.out.len]; exact hl0')
                rw [h2] at h1
                exact h1
              have HSH : Hid (sha L = outV V) := by show _ = _; rw [sha_regs, HV.out]
              have HQV : Hid (Q w wr ∧ VR wr w.heap.size g3 rc V) := ⟨HF.out.q, HF.out.reg⟩
              have hrc := HF.out.reg.le
              clear hl0' HF HV HFL
              go_wp2_with fail
              clear hl0
              obtain ⟨wq, rfl⟩ : ∃ wq, wq = wr := ⟨_, rfl⟩
              have HO0 : Hid (wq.ownsRow wq.heap.size 5 1 (.slice none 0 0) (4 * 0) (((outV V).take (4 * 0)).map B8) ∧ Q wq wq) := ⟨World.ownsRow_nil wq _ _ 1, Q.refl _⟩
              go_loopw [7, 8] (fun u i wr => ∃ (j : Nat), j ≤ 8 ∧ i = .int .i64 j ∧ Hid (wr.ownsRow wq.heap.size 5 1 u (4 * j) (((outV V).take (4 * j)).map B8) ∧ Q wq wr)) (fun _ i _ => 8 - (intOf i).toNat)
              case atStart => exact ⟨0, by omega, rfl, HO0.out⟩
              case round =>
                obtain ⟨j, hj, rfl, HR⟩ := hrel
                by_cases hj8 : j < 8
                · have HCE : Hid (∀ w', Q wq w' → w'.cell? ⟨g3, j, none⟩ = some (.int .u32 (u32v (V.l.getD j 0)))) := fun w' hq => by
                    rw [(row_q hq HQV.out.2.row.choose_spec.1).cell (i := j) (by omega), HQV.out.2.row.choose_spec.2 j hj8]; rfl
                  have hk4 := outV_next4 V hj8
                  generalize V.l.getD j 0 = x at HCE hk4
                  obtain ⟨b0, b1, b2, b3, hbx, k0, k1, k2, k3⟩ := outW_parts x
                  rw [hbx] at hk4
                  have HK4 := Lib.hid hk4
                  clear hk4 hbx
                  obtain ⟨q, hq⟩ : ∃ q, q = 4 * j := ⟨_, rfl⟩
                  rw [← hq] at HR
                  have HQJ := Lib.hid hq
                  have hq32 : q ≤ 28 := by omega
                  clear hq
                  obtain ⟨UA, uc, rfl⟩ := own_form HR.out.1
                  go_wp2_with fail
                  have hQd : Hid (Q wq wr.drew) := HR.out.2.drew
                  go_region_held3 (fun w' => w'.cell? ⟨g3, j, none⟩ = some (.int .u32 (u32v x)))
                    (first
                      | exact HCE.out _ hQd.out
                      | exact HCE.out _ H1.out.2
                      | exact HCE.out _ (hQd.out.alloc _))
                    (first
                    | (refine step_append_sees (by rfl) (.tmp 49) (.tmp 73) 22 (by rfl) wq.heap.size 5 i8 _ 1 Tryd.underlying22 hi8 hz80 hz81 hz82 rfl (.slice UA q uc) q (((outV V).take q).map B8) (by rfl) (HR.out.1.drew.alloc _) (fun _ => True) (some ⟨wr.heap.size, 0, none⟩) 4 4 [.int .u8 (b0 : Int), .int .u8 (b1 : Int), .int .u8 (b2 : Int), .int .u8 (b3 : Int)] (by rfl) (fun h => by cases h) (by rfl) (sees_four wr _ _ _ _ _).drew (by simp [Value.oneCell']) (by unfold maxLen; omega) (by omega) (Nat.le_trans HR.out.2.size (by show _ ≤ (wr.heap.push _).size; simp)) ?_; intro v1 w1 hown1 hgr1; have H1 := Lib.hid (And.intro hown1 (hgr1.q (HR.out.2.drew.alloc _) (HR.out.1.drew.alloc _))); clear hown1 hgr1))
                  clear k0 k1 k2 k3
                  go_wp2_with fail
                  go_roundw
                  case rel => exact ⟨j + 1, by omega, by go_num, by
                    have h := H1.out
                    rw [show q + 4 = 4 * (j + 1) by have := HQJ.out; omega] at h
                    have h2 : ((outV V).take q).map B8 ++ [.int .u8 (b0 : Int), .int .u8 (b1 : Int), .int .u8 (b2 : Int), .int .u8 (b3 : Int)] = ((outV V).take (4 * (j + 1))).map B8 := by rw [HK4.out, HQJ.out, List.map_append]; rfl
                    rw [h2] at h
                    exact h⟩
                  case measure => simp [intOf]; omega
                · have hj' : j = 8 := by omega
                  subst hj'
                  have hout := HR.out.1
                  rw [show (outV V).take (4 * 8) = outV V from List.take_of_length_le (by rw [outV_len]; omega)] at hout
                  obtain ⟨UA, uc, rfl⟩ := own_form hout
                  have kc := run_convert_sees (P := Tryd.prog) wr 22 9 5 Tryd.underlying22 Tryd.underlying5 Tryd.underlying9 _ UA 32 uc (outV V) (outV_len V) (sees_own hout)
                  rw [← HSH.out] at kc
                  have HE : Hid (Q w wr) := HQV.out.1.trans' HR.out.2
                  clear hout
                  go_wp2_with fail
                  go_ret
                  exact ⟨rfl, HE.out⟩
    · have h56 : ¬ ((m % 64 : Nat) : Int) = 56 := by omega
      obtain ⟨r, hr⟩ : ∃ r, r = m % 64 := ⟨_, rfl⟩
      rw [← hr] at ht h56
      have HKN := Lib.hid hkn
      clear hkn hr hnx
      have HSA : Hid (Spr (wr.alloc (.cells #[.int .u8 0] 5)) w.heap.size g c ((L ++ [128] ++ List.replicate k 0).map B8)) := by
        obtain ⟨a1, a2, a3, a4, a5, a6⟩ := HW.out.1
        exact ⟨a1, by rw [alloc_size]; omega, a3, a4, fun j u hu => by rw [World.cell?_alloc_lt wr _ _ a2]; exact a5 j u hu, fun j hj => by rw [World.cell?_alloc_lt wr _ _ a2]; exact ⟨(a6 j hj).1, by have := (a6 j hj).2; simp only [World.frozen?, World.alloc] at this ⊢; rw [Array.getElem?_push, if_neg (by show ¬ g = _; omega)]; exact this⟩⟩
      go_wp2_with (at_builtin; go_loud (refine wpList_append_spr rfl (.tmp 17) (.tmp 18) 22 rfl 5 i8 _ Tryd.underlying22 hi8 hz80 hz81 hz82 rfl w.heap.size g c m _ rfl HSA.out (by rw [List.length_map, List.length_append, List.length_append, List.length_replicate, List.length_singleton, HM.out, HN.out]) ⟨wr.heap.size, 0, none⟩ 1 (.int .u8 0) rfl (one_cell wr (.int .u8 0) 5 0 _ rfl) rfl (by omega) (by have := HW.out.2.size; rw [alloc_size]; omega) ?_; intro g2 c2 w2 hs2 hq2; have H2 := Lib.hid (And.intro hs2 (hq2 w (Nat.le_refl _) (HW.out.2.alloc _))); clear hs2 hq2))
      go_roundw
      case rel => exact ⟨k + 1, g2, c2, by have := HK2.out; have := HKN.out; omega, by rw [HM.out]; rfl, by
        have h := H2.out
        have h2 : (L ++ [128] ++ List.replicate k 0).map B8 ++ [.int .u8 0] = (L ++ [128] ++ List.replicate (k + 1) 0).map B8 := by simp [B8, List.replicate_succ']
        rw [h2] at h
        exact h⟩
      case measure => have := HK2.out; have := HKN.out; have := HM.out; simp; omega
end Go.Proofs.YtcdbffgmgfblkaaDoor
