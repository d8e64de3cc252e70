/- The walk through the document's Text. -/
import Derived.Test.YtcdbffgmgfblkaaDoorHta
namespace Go.Proofs.YtcdbffgmgfblkaaDoor
set_option linter.unusedVariables false
set_option linter.unusedSimpArgs false
open Go.RowKit

set_option maxHeartbeats 8000000 in
set_option maxRecDepth 100000 in
theorem refText_ok (L : List Nat) (hb : ∀ x ∈ L, x ≤ 255) (hl : L.length ≤ 1000) (w : World) : Calls Tryd.prog 26 #[.string (strB L)] w fun e w' => e = .returned (.string (strB (hexL L))) ∧ Hid (Q w w') := by
  obtain ⟨i8, hi8, hz80, hz81, hz82⟩ := info_parts info8
  obtain ⟨n, hn⟩ : ∃ n, n = L.length := ⟨_, rfl⟩
  have hsz : (strB L).size = n := by rw [strB_size, hn]
  have HB := Lib.hid hb
  have HN := Lib.hid hn
  rw [← hn] at hl
  clear hb hn
  go_enter Tryd.func26, Tryd.ntmps26
  go_wp2_with fail
  have H0 : Hid (w.ownsRow w.heap.size 5 1 (.slice none 0 0) (2 * 0) ((hexL (L.take 0)).map B8) ∧ Q w w) := ⟨World.ownsRow_nil _ _ _ _, Q.refl _⟩
  go_loopw [4, 5] (fun u i wr => ∃ k : Nat, k ≤ n ∧ i = .int .i64 k ∧ Hid (wr.ownsRow w.heap.size 5 1 u (2 * k) ((hexL (L.take k)).map B8) ∧ Q w wr)) (fun _ i _ => n - (intOf i).toNat)
  case atStart => exact ⟨0, by omega, rfl, H0.out⟩
  case round =>
    obtain ⟨k, hk, rfl, HR⟩ := hrel
    by_cases hkn : k < n
    · have hidx := run_index_strB (P := Tryd.prog) 9 Tryd.underlying9 L HB.out .i64 k (by rw [← HN.out]; exact hkn)
      have HNX := Lib.hid (hexL_snoc L (k := k) (by rw [← HN.out]; exact hkn))
      have hx := getD_byte HB.out k
      generalize L.getD k 0 = x at *
      obtain ⟨p, hp⟩ : ∃ p, p = x / 16 := ⟨_, rfl⟩
      obtain ⟨r, hr⟩ : ∃ r, r = x % 16 := ⟨_, rfl⟩
      have hp16 : p < 16 := by omega
      have hr16 : r < 16 := by omega
      have d1 := dig_at 9 Tryd.underlying9 p hp16
      have d2 := dig_at 9 Tryd.underlying9 r hr16
      have e1 : (x : Int) / 16 = (p : Int) := by omega
      have e2 : (x : Int) % 16 = (r : Int) := by omega
      have e4 : (x : Int).tmod 16 = (r : Int) := by rw [Int.tmod_eq_emod_of_nonneg (by omega)]; omega
      have e5 : IntKind.u8.wrap (r : Int) = (r : Int) := by simp [IntKind.wrap, IntKind.bits, IntKind.signed]; omega
      have e3 : IntKind.u8.wrap (p : Int) = (p : Int) := by simp [IntKind.wrap, IntKind.bits, IntKind.signed]; omega
      rw [← hp, ← hr] at HNX
      generalize dg p = y at *
      generalize dg r = z at *
      clear hp hr
      obtain ⟨q, hq⟩ : ∃ q, q = 2 * k := ⟨_, rfl⟩
      rw [← hq] at HR
      have HQK := Lib.hid hq
      have hq64 : q ≤ 2000 := by omega
      clear hq
      obtain ⟨UA, uc, rfl⟩ := own_form HR.out.1
      go_wp2_with fail
      go_region_held3 (fun _ => True) (trivial)
        (first
        | (refine step_append_sees (by rfl) (.tmp 12) (.tmp 25) 22 (by rfl) w.heap.size 5 i8 _ 1 Tryd.underlying22 hi8 hz80 hz81 hz82 rfl (.slice UA q uc) q ((hexL (L.take k)).map B8) (by rfl) (HR.out.1.drew.alloc _) (fun _ => True) (some ⟨wr.heap.size, 0, none⟩) 2 2 [.int .u8 (y : Int), .int .u8 (z : Int)] (by rfl) (fun h => by cases h) (by rfl) (sees_two wr _ _ _).drew (by simp [Value.oneCell']) (by unfold maxLen; omega) (by omega) (Nat.le_trans HR.out.2.size (by show _ ≤ (wr.heap.push _).size; simp)) ?_; intro v2 w2 hown2 hgr2; have H2 := Lib.hid (And.intro hown2 (hgr2.q (HR.out.2.drew.alloc _) (HR.out.1.drew.alloc _))); clear hown2 hgr2))
      all_goals
        clear hidx d1 d2 e1 e2 e3 e4 e5
        go_wp2_with fail
        go_roundw
        case rel => exact ⟨k + 1, by omega, by go_num, by
          have h := H2.out
          rw [show q + 2 = 2 * (k + 1) by have := HQK.out; omega] at h
          have h2 : (hexL (L.take k)).map B8 ++ [.int .u8 (y : Int), .int .u8 (z : Int)] = (hexL (L.take (k + 1))).map B8 := by rw [HNX.out, List.map_append]; rfl
          rw [h2] at h
          exact h⟩
        case measure => simp [intOf]; omega
    · have hk' : k = n := by omega
      have hout := HR.out.1
      rw [hk', show L.take n = L from List.take_of_length_le (by rw [HN.out]; exact Nat.le_refl _)] at hout
      obtain ⟨UA, uc, rfl⟩ := own_form hout
      obtain ⟨q, hq⟩ : ∃ q, q = 2 * n := ⟨_, rfl⟩
      rw [← hq] at hout ⊢
      have kc := run_convert_sees (P := Tryd.prog) wr 22 9 5 Tryd.underlying22 Tryd.underlying5 Tryd.underlying9 _ UA q uc (hexL L) (by rw [hexL_len, ← HN.out, hq]) (sees_own hout)
      have HE : Hid (Q w wr) := HR.out.2
      clear hout hq hk'
      go_wp2_with fail
      go_ret
      exact ⟨rfl, HE.out⟩
end Go.Proofs.YtcdbffgmgfblkaaDoor
