/- The walk through sum's Read. -/
import Derived.Test.YtcdbffgmgfblkaaDoorHtb
import Derived.Test.YtcdbffgmgfblkaaDoorShelf
namespace Go.Proofs.YtcdbffgmgfblkaaDoor
set_option linter.unusedVariables false
set_option linter.unusedSimpArgs false
open Go.RowKit

/-- A digit's value. -/
def ud (c : Nat) : Option Nat := if 48 ≤ c ∧ c ≤ 57 then some (c - 48) else if 97 ≤ c ∧ c ≤ 102 then some (c - 87) else none
def un (c : Nat) : Nat := (ud c).getD 0
def isDig (c : Nat) : Bool := (ud c).isSome
theorem un_lt (c : Nat) : un c < 16 := by
  unfold un ud
  split
  · simp only [Option.getD_some]; omega
  · split
    · simp only [Option.getD_some]; omega
    · simp
/-- Is it a sum's digits? -/
def rdOk (S : List Nat) : Bool := S.length == 64 && S.all isDig
def rdV (S : List Nat) : List Nat := (List.range 32).map fun j => 16 * un (S.getD (2 * j) 0) + un (S.getD (2 * j + 1) 0)
def rdL (S : List Nat) : List Nat := if rdOk S = true then rdV S else List.replicate 32 0
theorem rdV_len (S : List Nat) : (rdV S).length = 32 := by simp [rdV]
theorem rdL_len (S : List Nat) : (rdL S).length = 32 := by
  unfold rdL
  split
  · exact rdV_len S
  · simp
theorem rdV_byte (S : List Nat) : ∀ x ∈ rdV S, x ≤ 255 := by
  intro x hx
  obtain ⟨j, _, rfl⟩ := List.mem_map.1 hx
  have := un_lt (S.getD (2 * j) 0)
  have := un_lt (S.getD (2 * j + 1) 0)
  omega
theorem rdL_byte (S : List Nat) : ∀ x ∈ rdL S, x ≤ 255 := by
  unfold rdL
  split
  · exact rdV_byte S
  · intro x hx; rw [(List.mem_replicate.1 hx).2]; omega
/-- The array while it is read. -/
def rdF (S : List Nat) (k j : Nat) : Value := B8 (if 2 * j + 1 < k then 16 * un (S.getD (2 * j) 0) + un (S.getD (2 * j + 1) 0) else if 2 * j < k then un (S.getD (2 * j) 0) else 0)
theorem rdF_end (S : List Nat) {j : Nat} (hj : j < 32) : rdF S 64 j = arrF (rdV S) j := by
  unfold rdF arrF rdV
  have e : ((List.range 32).map fun j => 16 * un (S.getD (2 * j) 0) + un (S.getD (2 * j + 1) 0))[j]? = some (16 * un (S.getD (2 * j) 0) + un (S.getD (2 * j + 1) 0)) := by rw [List.getElem?_map, List.getElem?_range hj]; rfl
  rw [if_pos (by omega), show ((List.range 32).map fun j => 16 * un (S.getD (2 * j) 0) + un (S.getD (2 * j + 1) 0)).getD j 0 = _ from List.getD_eq_getElem?_getD, e]; rfl
/-- What stands at a place ahead of a digit. -/
def rdC (S : List Nat) (k : Nat) : Nat := if k % 2 = 1 then un (S.getD (k - 1) 0) else 0
theorem rdF_at (S : List Nat) (k : Nat) : rdF S k (k / 2) = B8 (rdC S k) := by
  unfold rdF rdC
  by_cases hk : k % 2 = 1
  · rw [if_neg (by omega), if_pos (by omega), if_pos hk, show 2 * (k / 2) = k - 1 by omega]
  · rw [if_neg (by omega), if_neg (by omega), if_neg hk]
theorem rdF_next (S : List Nat) (k : Nat) {Y : Value} (hY : Y = B8 (16 * rdC S k + un (S.getD k 0))) (j : Nat) : (if j = k / 2 then Y else rdF S k j) = rdF S (k + 1) j := by
  by_cases hj : j = k / 2
  · subst hj
    rw [if_pos rfl, hY]
    unfold rdF rdC
    by_cases hk : k % 2 = 1
    · rw [if_pos hk, if_pos (by omega), show 2 * (k / 2) = k - 1 by omega, show k - 1 + 1 = k by omega]
    · rw [if_neg hk, if_neg (by omega), if_pos (by omega), show 2 * (k / 2) = k by omega]; simp
  · rw [if_neg hj]
    unfold rdF
    by_cases h1 : 2 * j + 1 < k
    · rw [if_pos h1, if_pos (by omega)]
    · rw [if_neg h1, if_neg (by omega), if_neg (by omega), if_neg (by omega)]
theorem ib_all : ∀ c, c < 256 → Lib.indexByte (⟨#[48, 49, 50, 51, 52, 53, 54, 55, 56, 57, 97, 98, 99, 100, 101, 102]⟩ : ByteArray).data.toList c.toUInt8 = (match ud c with | some v => (v : Int) | none => -1) := by decide +kernel
theorem or16 {x v : Nat} (hx : x < 16) (hv : v < 16) : bits .or .u8 ((16 * x : Nat) : Int) (v : Int) = ((16 * x + v : Nat) : Int) := by
  have h1 : 16 * x ||| v = 16 * x + v := by
    have h : 2 ^ 4 * x ||| v = 2 ^ 4 * x + v := (Nat.two_pow_add_eq_or_of_lt (show v < 2 ^ 4 by omega) x).symm
    exact h
  rw [(or8 (x := 16 * x) (y := v) (by omega) (by omega)).1, h1]
theorem zer32_arr : zer32 = arrO (List.replicate 32 0) := by kernel_rfl
theorem zer32_agg : AggIs (.agg zer32) 32 (arrF (List.replicate 32 0)) := by rw [zer32_arr]; exact arrO_agg _

set_option maxHeartbeats 8000000 in
set_option maxRecDepth 100000 in
theorem read_ok (S : List Nat) (hb : ∀ x ∈ S, x ≤ 255) (hl : S.length ≤ 1000000) (w : World) : Calls Tryd.prog 25 #[.string (strB S)] w fun e w' => e = .returned (.tuple #[.agg (arrO (rdL S)), .bool (rdOk S)]) ∧ Hid (Q w w') := by
  obtain ⟨i8, hi8, hz80, hz81, hz82⟩ := info_parts info8
  obtain ⟨n, hn⟩ : ∃ n, n = S.length := ⟨_, rfl⟩
  have hsz : (strB S).size = n := by rw [strB_size, hn]
  have HB := Lib.hid hb
  have HN := Lib.hid hn
  rw [← hn] at hl
  clear hb hn
  have HBAD : Hid (rdOk S = false → arrO (rdL S) = zer32) := fun h => by unfold rdL; rw [if_neg (by rw [h]; exact Bool.false_ne_true), zer32_arr]
  go_enter Tryd.func25, Tryd.ntmps25
  by_cases hn64 : n = 64
  · subst hn64
    go_wp2_with (first
      | (refine gate 2 rfl ?_; go_loud (refine wpList_alloc_row rfl 28 rfl _ (zero32 _) 32 _ rfl zer32_get ?_; intro w1 hr1 hx1; have H1 : Hid (w1.rowIs w.heap.size 28 32 (arrF []) ∧ Q w w1) := ⟨hr1, hx1.q (Q.refl _)⟩; clear hr1 hx1))
      | (refine gate 4 rfl ?_; go_loud (refine wpList_alloc_row rfl 28 rfl _ (zero32 _) 32 _ rfl zer32_get ?_; intro w2 hr2 hx2; have H2 : Hid (w2.rowIs w1.heap.size 28 32 (rdF S 0) ∧ Q w1 w2) := ⟨hr2.congr fun i _ => by unfold rdF arrF; rw [if_neg (by omega), if_neg (by omega)]; rfl, hx2.q (Q.refl _)⟩; clear hr2 hx2)))
    go_loopw [13] (fun i wr => ∃ k : Nat, k ≤ 64 ∧ i = .int .i64 k ∧ Hid ((S.take k).all isDig = true ∧ wr.rowIs w1.heap.size 28 32 (rdF S k) ∧ Q w1 wr)) (fun i _ => 64 - (intOf i).toNat)
    case atStart => exact ⟨0, by omega, rfl, by simp, H2.out⟩
    case round =>
      obtain ⟨k, hk, rfl, HW⟩ := hrel
      by_cases hk64 : k < 64
      · have hidx := run_index_strB (P := Tryd.prog) 9 Tryd.underlying9 S HB.out .i64 k (by rw [← HN.out]; exact hk64)
        have hcb := getD_byte HB.out k
        have HTK : Hid ((S.take (k + 1)).all isDig = ((S.take k).all isDig && isDig (S.getD k 0))) := by
          show _ = _
          have hkl : k < S.length := by rw [← HN.out]; exact hk64
          rw [List.take_succ_eq_append_getElem hkl, List.all_append, List.getD_eq_getElem?_getD, List.getElem?_eq_getElem hkl]; simp
        have HALL : Hid (isDig (S.getD k 0) = false → rdOk S = false) := fun h => by
          have hkl : k < S.length := by rw [← HN.out]; exact hk64
          have : S.all isDig = false := by
            rw [List.all_eq_false]
            refine ⟨S.getD k 0, ?_, by rw [h]; exact Bool.false_ne_true⟩
            rw [List.getD_eq_getElem?_getD, List.getElem?_eq_getElem hkl]; exact List.getElem_mem hkl
          unfold rdOk; rw [this, Bool.and_false]
        have HIB := Lib.hid (fun wx => Tryd.strings_IndexByte ⟨#[48, 49, 50, 51, 52, 53, 54, 55, 56, 57, 97, 98, 99, 100, 101, 102]⟩ ((S.getD k 0 : Nat) : Int) wx)
        have HIV := Lib.hid (ib_all (S.getD k 0) (by omega))
        have HNX := Lib.hid (fun Y hY => rdF_next S k (Y := Y) hY)
        have HAT := Lib.hid (rdF_at S k)
        have hcx : rdC S k < 16 := by unfold rdC; split; exact un_lt _; omega
        have HUN : Hid (isDig (S.getD k 0) = true → ud (S.getD k 0) = some (un (S.getD k 0))) := fun h => by
          unfold isDig at h; unfold un
          obtain ⟨v, hv⟩ := Option.isSome_iff_exists.1 h
          rw [hv]; rfl
        have hun := un_lt (S.getD k 0)
        generalize S.getD k 0 = c at *
        generalize un c = v at *
        generalize rdC S k = x at *
        by_cases hdig : isDig c = true
        · have HIB2 : Hid (∀ wx, Calls Tryd.prog 42 #[.string ⟨#[48, 49, 50, 51, 52, 53, 54, 55, 56, 57, 97, 98, 99, 100, 101, 102]⟩, .int .u8 (c : Int)] wx fun e w' => e = .returned (.int .i64 (v : Int)) ∧ w' = wx) := fun wx => (HIB.out wx).mono fun e w' h => ⟨by rw [h.1, Int.toNat_natCast, HIV.out, HUN.out hdig], h.2⟩
          have HTK2 : Hid ((S.take (k + 1)).all isDig = true) := by show _ = _; rw [HTK.out, HW.out.1, hdig]; rfl
          obtain ⟨h, hh⟩ : ∃ h, h = k / 2 := ⟨_, rfl⟩
          have hh2 : (k : Int) / 2 = (h : Int) := by omega
          have hh3 : IntKind.i64.wrap (h : Int) = (h : Int) := IntWalk.i64_in _ (by omega)
          have hh32 : h < 32 := by omega
          have ca := HW.out.2.1.cell (i := h) hh32
          have fa := HW.out.2.1.frozen h
          rw [hh, HAT.out, ← hh] at ca
          unfold B8 at ca
          have e1 : IntKind.u8.wrap ((x : Int) * 16) = ((16 * x : Nat) : Int) := by simp [IntKind.wrap, IntKind.bits, IntKind.signed]; omega
          have e2 : IntKind.u8.wrap (v : Int) = (v : Int) := by simp [IntKind.wrap, IntKind.bits, IntKind.signed]; omega
          have HY : Hid (Value.int .u8 (bits .or .u8 (16 * (x : Int)) (v : Int)) = B8 (16 * x + v)) := by have h := or16 hcx hun; rw [Int.natCast_mul] at h; exact congrArg _ h
          rw [← hh] at HNX
          have HHH := Lib.hid hh
          clear hh hdig
          go_wp2_with (go_at_call 42; (with_reducible refine (HIB2.out _).mono ?_); rintro e w3 ⟨rfl, rfl⟩)
          go_roundw
          case rel => exact ⟨k + 1, by omega, by go_num, HTK2.out, (HW.out.2.1.set h _).congr fun j _ => HNX.out _ HY.out j, (Put.of_setCell _ _ _).q HW.out.2.2 (Nat.le_refl _)⟩
          case measure => simp [intOf]; omega
        · have hdig' : isDig c = false := by cases h : isDig c; rfl; exact absurd h hdig
          have HIB2 : Hid (∀ wx, Calls Tryd.prog 42 #[.string ⟨#[48, 49, 50, 51, 52, 53, 54, 55, 56, 57, 97, 98, 99, 100, 101, 102]⟩, .int .u8 (c : Int)] wx fun e w' => e = .returned (.int .i64 (-1)) ∧ w' = wx) := fun wx => (HIB.out wx).mono fun e w' h => ⟨by
            have hu : ud c = none := by unfold isDig at hdig'; cases hv : ud c; rfl; rw [hv] at hdig'; cases hdig'
            rw [h.1, Int.toNat_natCast, HIV.out, hu], h.2⟩
          have hz32 := zero32
          have HR2 : Hid (wr.rowIs w.heap.size 28 32 (arrF []) ∧ Q w wr) := ⟨row_q HW.out.2.2 H1.out.1, H1.out.2.trans' HW.out.2.2⟩
          have HOKF := Lib.hid (HALL.out hdig')
          clear hdig hdig'
          go_wp2_with (first
            | (go_at_call 42; (with_reducible refine (HIB2.out _).mono ?_); rintro e w3 ⟨rfl, rfl⟩)
            | (refine wpList_store_all rfl 28 (.tmp 2) (.tmp 22) rfl w.heap.size rfl _ rfl 32 info32b _ zer32_agg (fun i _ => rfl) 28 _ HR2.out.1 ?_; intro w6 hr6 hp6; have H6 := Lib.hid (And.intro hr6 hp6); clear hr6 hp6))
          refine ret_cell_tmp rfl w.heap.size rfl _ Tryd.underlying28 rfl 32 info32b (arrF (List.replicate 32 0)) (row_cells H6.out.1) rfl (fun v hv => ⟨?_, H6.out.2.q HR2.out.2 (Nat.le_refl _)⟩)
          rw [HOKF.out, HBAD.out HOKF.out, arrO_eq hv, zer32_arr]; rfl
      · have hk' : k = 64 := by omega
        subst hk'
        have HOKT : Hid (rdOk S = true ∧ rdL S = rdV S) := by
          have h1 : rdOk S = true := by
            have h2 := HW.out.1
            rw [List.take_of_length_le (by rw [← HN.out]; exact Nat.le_refl _)] at h2
            unfold rdOk; rw [h2, ← HN.out]; rfl
          exact ⟨h1, by unfold rdL; rw [if_pos h1]⟩
        have HRE : Hid (wr.rowIs w1.heap.size 28 32 (arrF (rdV S))) := HW.out.2.1.congr fun j hj => rdF_end S hj
        have HR2 : Hid (wr.rowIs w.heap.size 28 32 (arrF []) ∧ Q w wr) := ⟨row_q HW.out.2.2 H1.out.1, H1.out.2.trans' HW.out.2.2⟩
        go_wp2_with (first
          | (refine gate 35 rfl ?_; go_loud (refine wpList_load_agg rfl 28 (.tmp 4) rfl w1.heap.size 0 rfl _ Tryd.underlying28 rfl 32 info32b _ (row_cells HRE.out) ?_; intro V hV; have HV := Lib.hid hV; clear hV))
          | (refine wpList_store_all rfl 28 (.tmp 2) (.tmp 35) rfl w.heap.size rfl V rfl 32 info32b _ HV.out (fun i _ => rfl) 28 _ HR2.out.1 ?_; intro w6 hr6 hp6; have H6 := Lib.hid (And.intro hr6 hp6); clear hr6 hp6))
        refine ret_cell_tmp rfl w.heap.size rfl _ Tryd.underlying28 rfl 32 info32b (arrF (rdV S)) (row_cells H6.out.1) rfl (fun v hv => ⟨?_, H6.out.2.q HR2.out.2 (Nat.le_refl _)⟩)
        rw [HOKT.out.1, HOKT.out.2, arrO_eq hv]; rfl
  · have HOKF : Hid (rdOk S = false) := by show _ = _; unfold rdOk; rw [← HN.out, show (n == 64) = false from beq_eq_false_iff_ne.2 hn64]; rfl
    have t : ((n : Int) != 64) = true := bne_iff_ne.2 (by omega)
    have t2 : ¬ (n : Int) = 64 := by omega
    have hz32 := zero32
    go_wp2_with (first
      | (refine gate 2 rfl ?_; go_loud (refine wpList_alloc_row rfl 28 rfl _ (zero32 _) 32 _ rfl zer32_get ?_; intro w1 hr1 hx1; have H1 : Hid (w1.rowIs w.heap.size 28 32 (arrF []) ∧ Q w w1) := ⟨hr1, hx1.q (Q.refl _)⟩; clear hr1 hx1))
      | (refine wpList_store_all rfl 28 (.tmp 2) (.tmp 10) rfl w.heap.size rfl _ rfl 32 info32b _ zer32_agg (fun i _ => rfl) 28 _ H1.out.1 ?_; intro w6 hr6 hp6; have H6 := Lib.hid (And.intro hr6 hp6); clear hr6 hp6))
    refine ret_cell_tmp rfl w.heap.size rfl _ Tryd.underlying28 rfl 32 info32b (arrF (List.replicate 32 0)) (row_cells H6.out.1) rfl (fun v hv => ⟨?_, H6.out.2.q H1.out.2 (Nat.le_refl _)⟩)
    rw [HOKF.out, HBAD.out HOKF.out, arrO_eq hv, zer32_arr]; rfl
end Go.Proofs.YtcdbffgmgfblkaaDoor
