/- Sums as digits: the plain words; the walks through sum's Text and the document's. -/
import Derived.Test.YtcdbffgmgfblkaaDoorHme
import Derived.Deep.RegionHeld3
namespace Go.Proofs.YtcdbffgmgfblkaaDoor
set_option linter.unusedVariables false
set_option linter.unusedSimpArgs false
open Go.RowKit

/-- The digits. -/
def digs : List Nat := [48, 49, 50, 51, 52, 53, 54, 55, 56, 57, 97, 98, 99, 100, 101, 102]
def dg (v : Nat) : Nat := digs.getD v 0
/-- Bytes as digits. -/
def hexL (L : List Nat) : List Nat := L.flatMap fun x => [dg (x / 16), dg (x % 16)]
theorem digs_byte : ∀ x ∈ digs, x ≤ 255 := by decide
theorem dg_byte (v : Nat) : dg v ≤ 255 := getD_byte digs_byte v
theorem hexL_len (L : List Nat) : (hexL L).length = 2 * L.length := by
  induction L with
  | nil => rfl
  | cons x L ih => simp only [hexL, List.flatMap_cons, List.length_append, List.length_cons, List.length_nil] at ih ⊢; omega
theorem hexL_byte (L : List Nat) : ∀ x ∈ hexL L, x ≤ 255 := by
  intro x hx
  obtain ⟨y, _, hy⟩ := List.mem_flatMap.1 hx
  simp only [List.mem_cons, List.not_mem_nil, or_false] at hy
  rcases hy with rfl | rfl <;> exact dg_byte _
theorem hexL_snoc (L : List Nat) {k : Nat} (hk : k < L.length) : hexL (L.take (k + 1)) = hexL (L.take k) ++ [dg (L.getD k 0 / 16), dg (L.getD k 0 % 16)] := by
  rw [List.take_succ_eq_append_getElem hk]
  unfold hexL
  rw [List.flatMap_append, List.flatMap_singleton, List.getD_eq_getElem?_getD, List.getElem?_eq_getElem hk]; rfl
theorem dig_at (t : Nat) (ht : Tryd.prog.underlying t = some .string) (v : Nat) (hv : v < 16) (w : World) : (Instr.index t (.string ⟨#[48, 49, 50, 51, 52, 53, 54, 55, 56, 57, 97, 98, 99, 100, 101, 102]⟩) (.int .u8 (v : Int))).run Tryd.prog w = .ok (.int .u8 ((dg v : Nat) : Int)) w :=
  run_index_strB t ht digs digs_byte .u8 v hv w
theorem and15 {x : Nat} (hx : x ≤ 255) : bits .and .u8 (x : Int) 15 = ((x % 16 : Nat) : Int) := by
  have h1 : (BitVec.ofInt 8 (x : Int)).toNat = x := by
    rw [BitVec.ofInt_natCast, BitVec.toNat_ofNat]; exact Nat.mod_eq_of_lt (by omega)
  have h2 : (BitVec.ofInt 8 (15 : Int)).toNat = 15 := by decide
  show IntKind.u8.wrap ((BitVec.ofInt 8 (x : Int) &&& BitVec.ofInt 8 15).toNat : Int) = _
  rw [BitVec.toNat_and, h1, h2, show (15 : Nat) = 2 ^ 4 - 1 from rfl, Nat.and_two_pow_sub_one_eq_mod]
  simp [IntKind.wrap, IntKind.bits, IntKind.signed]
  omega
theorem sees_two (w : World) (a b : Value) (t : TypeId) : SeesP (w.alloc (.cells #[a, b] t)) (fun _ => True) (some ⟨w.heap.size, 0, none⟩) [a, b] := (SeesP.new w [a, b] t).more fun _ _ => trivial

set_option maxHeartbeats 8000000 in
set_option maxRecDepth 100000 in
theorem sumText_ok (L : List Nat) (hb : ∀ x ∈ L, x ≤ 255) (hl : L.length = 32) (w : World) : Calls Tryd.prog 24 #[.agg (arrO L)] w fun e w' => e = .returned (.string (strB (hexL L))) ∧ Hid (Q w w') := by
  obtain ⟨i8, hi8, hz80, hz81, hz82⟩ := info_parts info8
  have HB := Lib.hid hb
  have HL := Lib.hid hl
  clear hb hl
  go_enter Tryd.func24, Tryd.ntmps24
  go_wp2_with (first
    | (refine gate 1 rfl ?_; refine wpList_box_row rfl 28 (.tmp 0) rfl _ rfl 32 _ (arrO_agg L) ?_; intro w1 hr1 hx1; have H1 : Hid (w1.rowIs w.heap.size 28 32 (arrF L) ∧ Q w w1) := ⟨hr1, hx1.q (Q.refl _)⟩; clear hr1 hx1)
    | (refine gate 6 rfl ?_; go_loud (refine wpList_load_agg rfl 28 (.tmp 1) rfl w.heap.size 0 rfl _ Tryd.underlying28 rfl 32 info32b _ (row_cells H1.out.1) ?_; intro V hV; obtain rfl := arrO_eq hV; clear hV)))
  have H0 : Hid (w1.ownsRow w1.heap.size 5 1 (.slice none 0 0) (2 * 0) ((hexL (L.take 0)).map B8) ∧ Q w1 w1) := ⟨World.ownsRow_nil _ _ _ _, Q.refl _⟩
  go_loopw [3, 7] (fun u i wr => ∃ k : Nat, k ≤ 32 ∧ i = .int .i64 k ∧ Hid (wr.ownsRow w1.heap.size 5 1 u (2 * k) ((hexL (L.take k)).map B8) ∧ Q w1 wr)) (fun _ i _ => 32 - (intOf i).toNat)
  case atStart => exact ⟨0, by omega, rfl, H0.out⟩
  case round =>
    obtain ⟨k, hk, rfl, HR⟩ := hrel
    by_cases hk32 : k < 32
    · have hidx := run_index_agg (P := Tryd.prog) 28 5 32 Tryd.underlying28 (fun w => by go_simp) i8 hi8 hz81 _ _ (arrO_agg L) .i64 k hk32
      have HNX := Lib.hid (hexL_snoc L (k := k) (by rw [HL.out]; exact hk32))
      have hx := getD_byte HB.out k
      unfold arrF B8 at hidx
      generalize L.getD k 0 = x at *
      obtain ⟨p, hp⟩ : ∃ p, p = x / 16 := ⟨_, rfl⟩
      obtain ⟨r, hr⟩ : ∃ r, r = x % 16 := ⟨_, rfl⟩
      have hp16 : p < 16 := by omega
      have hr16 : r < 16 := by omega
      have d1 := dig_at 9 Tryd.underlying9 p hp16
      have d2 := dig_at 9 Tryd.underlying9 r hr16
      have e1 : (x : Int) / 16 = (p : Int) := by omega
      have e2 : bits .and .u8 (x : Int) 15 = (r : Int) := by rw [hr]; exact and15 hx
      rw [← hp, ← hr] at HNX
      generalize dg p = y at *
      generalize dg r = z at *
      clear hp hr
      obtain ⟨q, hq⟩ : ∃ q, q = 2 * k := ⟨_, rfl⟩
      rw [← hq] at HR
      have HQK := Lib.hid hq
      have hq64 : q ≤ 64 := by omega
      clear hq
      obtain ⟨UA, uc, rfl⟩ := own_form HR.out.1
      go_wp2_with fail
      go_region_held3 (fun _ => True) (trivial)
        (first
        | (refine step_append_sees (by rfl) (.tmp 10) (.tmp 17) 22 (by rfl) w1.heap.size 5 i8 _ 1 Tryd.underlying22 hi8 hz80 hz81 hz82 rfl (.slice UA q uc) q ((hexL (L.take k)).map B8) (by rfl) (HR.out.1.drew.alloc _) (fun _ => True) (some ⟨wr.heap.size, 0, none⟩) 2 2 [.int .u8 (y : Int), .int .u8 (z : Int)] (by rfl) (fun h => by cases h) (by rfl) (sees_two wr _ _ _).drew (by simp [Value.oneCell']) (by unfold maxLen; omega) (by omega) (Nat.le_trans HR.out.2.size (by show _ ≤ (wr.heap.push _).size; simp)) ?_; intro v2 w2 hown2 hgr2; have H2 := Lib.hid (And.intro hown2 (hgr2.q (HR.out.2.drew.alloc _) (HR.out.1.drew.alloc _))); clear hown2 hgr2))
      all_goals
        clear hidx d1 d2 e1 e2
        go_wp2_with fail
        go_roundw
        case rel => exact ⟨k + 1, by omega, by go_num, by
          have h := H2.out
          rw [show q + 2 = 2 * (k + 1) by have := HQK.out; omega] at h
          have h2 : (hexL (L.take k)).map B8 ++ [.int .u8 (y : Int), .int .u8 (z : Int)] = (hexL (L.take (k + 1))).map B8 := by rw [HNX.out, List.map_append]; rfl
          rw [h2] at h
          exact h⟩
        case measure => simp [intOf]; omega
    · have hk' : k = 32 := by omega
      subst hk'
      have hout := HR.out.1
      rw [show L.take 32 = L from List.take_of_length_le (by rw [HL.out]; exact Nat.le_refl _)] at hout
      obtain ⟨UA, uc, rfl⟩ := own_form hout
      have kc := run_convert_sees (P := Tryd.prog) wr 22 9 5 Tryd.underlying22 Tryd.underlying5 Tryd.underlying9 _ UA 64 uc (hexL L) (by rw [hexL_len, HL.out]) (sees_own hout)
      have HE : Hid (Q w wr) := H1.out.2.trans' HR.out.2
      clear hout
      go_wp2_with fail
      go_ret
      exact ⟨rfl, HE.out⟩
end Go.Proofs.YtcdbffgmgfblkaaDoor
