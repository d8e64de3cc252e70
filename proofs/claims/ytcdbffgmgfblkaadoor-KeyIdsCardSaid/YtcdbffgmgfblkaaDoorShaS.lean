/- The walk through sum's Same. -/
import Derived.Test.YtcdbffgmgfblkaaDoorShaL
namespace Go.Proofs.YtcdbffgmgfblkaaDoor
set_option linter.unusedVariables false
set_option linter.unusedSimpArgs false
open Go.RowKit

theorem or8 {x y : Nat} (hx : x ≤ 255) (hy : y ≤ 255) : bits .or .u8 (x : Int) (y : Int) = ((x ||| y : Nat) : Int) ∧ x ||| y ≤ 255 := by
  have h : x ||| y < 2 ^ 8 := Nat.or_lt_two_pow (by omega) (by omega)
  refine ⟨?_, by omega⟩
  have h1 : (BitVec.ofInt 8 (x : Int)).toNat = x := by
    rw [BitVec.ofInt_natCast, BitVec.toNat_ofNat]; exact Nat.mod_eq_of_lt (by omega)
  have h2 : (BitVec.ofInt 8 (y : Int)).toNat = y := by
    rw [BitVec.ofInt_natCast, BitVec.toNat_ofNat]; exact Nat.mod_eq_of_lt (by omega)
  show IntKind.u8.wrap ((BitVec.ofInt 8 (x : Int) ||| BitVec.ofInt 8 (y : Int)).toNat : Int) = _
  rw [BitVec.toNat_or, h1, h2]
  simp [IntKind.wrap, IntKind.bits, IntKind.signed]
  omega
theorem snoc_iff {α : Type} {l m : List α} {a b : α} : l ++ [a] = m ++ [b] ↔ l = m ∧ a = b := by
  constructor
  · intro h
    have h1 := List.append_inj' h rfl
    exact ⟨h1.1, by simpa using h1.2⟩
  · rintro ⟨rfl, rfl⟩; rfl
theorem diff8 {x f : Nat} (hx : x ≤ 255) (hf : f ≤ 255) : ∃ u : Nat, bits .xor .u8 (x : Int) (f : Int) = (u : Int) ∧ u ≤ 255 ∧ (u = 0 ↔ x = f) :=
  ⟨x ^^^ f, (xor8 hx hf).1, (xor8 hx hf).2, fun h => by have h1 := congrArg (· ^^^ f) h; simpa [Nat.xor_assoc] using h1, fun h => by rw [h]; exact Nat.xor_self f⟩
theorem join8 {y u : Nat} (hy : y ≤ 255) (hu : u ≤ 255) : ∃ v : Nat, bits .or .u8 (y : Int) (u : Int) = (v : Int) ∧ v ≤ 255 ∧ (v = 0 ↔ y = 0 ∧ u = 0) :=
  ⟨y ||| u, (or8 hy hu).1, (or8 hy hu).2, Nat.or_eq_zero_iff⟩

set_option maxHeartbeats 8000000 in
set_option maxRecDepth 100000 in
theorem same_ok (A0 : Option Addr) (n0 c0 : Nat) (first : List Nat) (A : Option Addr) (n c : Nat) (parts : List (Value × List Nat)) (ok : Nat → Prop) (w : World) (hf : SeesP w ok A0 (first.map B8)) (hfl : first.length = n0) (hfb : ∀ x ∈ first, x ≤ 255) (hn : parts.length = n) (hs : SeesP w ok A (parts.map (·.1))) (hp : PartsB w ok parts) (hn64 : n ≤ 1000000) (hn0 : n0 ≤ 1000000) :
    Calls Tryd.prog 19 #[.slice A0 n0 c0, .slice A n c] w fun e w' => ∃ r : Bool, e = .returned (.bool r) ∧ Hid ((r = true ↔ ∀ z ∈ parts, z.2 = first) ∧ Q w w') := by
  have HN := Lib.hid hn
  have HF := Lib.hid hf
  have HFL := Lib.hid hfl
  have HFB := Lib.hid hfb
  have HS := Lib.hid hs
  have HP := Lib.hid hp
  clear hf hfl hfb hn hs hp
  go_enter Tryd.func19, Tryd.ntmps19
  go_wp2_with fail
  have H0 : Hid ((∀ z ∈ parts.take 0, z.2.length = n0)) := by intro z hz; simp at hz
  go_loopw [14] (fun i wr => ∃ k : Nat, k ≤ n ∧ i = .int .i64 k ∧ w = wr ∧ Hid (∀ z ∈ parts.take k, z.2.length = n0)) (fun i _ => n - (intOf i).toNat)
  case atStart => exact ⟨0, by omega, rfl, rfl, H0.out⟩
  case round =>
    obtain ⟨k, hk, rfl, rfl, HW⟩ := hrel
    by_cases hkn : k < n
    · have hkl : k < parts.length := by rw [HN.out]; exact hkn
      obtain ⟨B, m, c', hz, hzl, hzs, hzb⟩ := HP.out parts[k] (List.getElem_mem hkl)
      obtain ⟨bb, oo, rfl, hbb, hc⟩ := HS.out.at_ (k := k) (u := parts[k].1) (by simp [hkl])
      rw [hz] at hc
      clear hzs hzb hbb hz
      by_cases hm : m = n0
      · have HNX : Hid (∀ z ∈ parts.take (k + 1), z.2.length = n0) := by
          intro z hz
          rw [List.take_succ_eq_append_getElem hkl, List.mem_append, List.mem_singleton] at hz
          rcases hz with hz | rfl
          · exact HW.out z hz
          · omega
        clear hzl
        go_wp2_with fail
        go_roundw
        case rel => exact ⟨k + 1, by omega, by go_num, by trivial, HNX.out⟩
        case measure => simp [intOf]; omega
      · have HNO : Hid (¬ ∀ z ∈ parts, z.2 = first) := by
          intro h
          have h1 := h _ (List.getElem_mem hkl)
          rw [h1, HFL.out] at hzl
          omega
        clear hzl
        go_wp2_with fail
        go_ret
        exact ⟨false, rfl, by simpa using HNO.out, Q.refl _⟩
    · have HLN : Hid (∀ z ∈ parts, z.2.length = n0) := by
        have h1 := HW.out
        rw [List.take_of_length_le (by rw [HN.out]; omega)] at h1
        exact h1
      clear HW H0
      go_wp2_with fail
      have H1 : Hid (((0 : Nat) = 0 ↔ ∀ z ∈ parts.take 0, z.2 = first)) := by show _ ↔ _; simp
      go_loopw [7, 26] (fun d i wr => ∃ k y : Nat, k ≤ n ∧ y ≤ 255 ∧ d = .int .u8 y ∧ i = .int .i64 k ∧ w = wr ∧ Hid (y = 0 ↔ ∀ z ∈ parts.take k, z.2 = first)) (fun _ i _ => n - (intOf i).toNat)
      case atStart => exact ⟨0, 0, by omega, by omega, rfl, rfl, rfl, H1.out⟩
      case round =>
        obtain ⟨k, y, hk, hy, rfl, rfl, rfl, HW⟩ := hrel
        by_cases hkn : k < n
        · have hkl : k < parts.length := by rw [HN.out]; exact hkn
          obtain ⟨B, m, c', hz, hzl, hzs, hzb⟩ := HP.out parts[k] (List.getElem_mem hkl)
          obtain ⟨bb, oo, rfl, hbb, hc⟩ := HS.out.at_ (k := k) (u := parts[k].1) (by simp [hkl])
          rw [hz] at hc
          have hm : m = n0 := by rw [← hzl]; exact HLN.out _ (List.getElem_mem hkl)
          subst hm
          obtain ⟨L, hL⟩ : ∃ L, L = parts[k].2 := ⟨_, rfl⟩
          rw [← hL] at hzl hzs hzb
          have HNX : Hid ((∀ z ∈ parts.take (k + 1), z.2 = first) ↔ (∀ z ∈ parts.take k, z.2 = first) ∧ L = first) := by
            show _ ↔ _
            rw [List.take_succ_eq_append_getElem hkl, hL]
            simp only [List.mem_append, List.mem_singleton]
            exact ⟨fun h => ⟨fun z hz => h z (.inl hz), h _ (.inr rfl)⟩, fun h z hz => hz.elim (h.1 z) fun e => by rw [e]; exact h.2⟩
          have HZS := Lib.hid hzs
          have HZL := Lib.hid hzl
          have HZB := Lib.hid hzb
          clear hzs hzb hbb hz hL hzl
          go_wp2_with fail
          have H2 : Hid ((y = 0 ↔ y = 0 ∧ L.take 0 = first.take 0)) := by show _ ↔ _; simp
          obtain ⟨y0, hy0⟩ : ∃ y0, y0 = y := ⟨_, rfl⟩
          go_loopw [7, 32] (fun d i wr => ∃ j v : Nat, j ≤ m ∧ v ≤ 255 ∧ d = .int .u8 v ∧ i = .int .i64 j ∧ w = wr ∧ Hid (v = 0 ↔ y = 0 ∧ L.take j = first.take j)) (fun _ i _ => m - (intOf i).toNat)
          case atStart => exact ⟨0, y, by omega, by omega, rfl, rfl, rfl, H2.out⟩
          case round =>
            obtain ⟨j, v, hj, hv, rfl, rfl, rfl, HV⟩ := hrel
            by_cases hjn : j < m
            · have hjl : j < L.length := by rw [HZL.out]; exact hjn
              have hjf : j < first.length := by rw [HFL.out]; exact hjn
              obtain ⟨b1, o1, rfl, hb1, hc1⟩ := HZS.out.at_ (k := j) (u := B8 L[j]) (by simp [hjl])
              obtain ⟨b2, o2, rfl, hb2, hc2⟩ := HF.out.at_ (k := j) (u := B8 first[j]) (by simp [hjf])
              obtain ⟨u, hu, hu255, hu0⟩ := diff8 (HZB.out _ (List.getElem_mem hjl)) (HFB.out _ (List.getElem_mem hjf))
              obtain ⟨v', hv', hv255, hv0⟩ := join8 hv hu255
              have HVX : Hid (v' = 0 ↔ y = 0 ∧ L.take (j + 1) = first.take (j + 1)) := by
                show _ ↔ _
                rw [hv0, hu0, HV.out, List.take_succ_eq_append_getElem hjl, List.take_succ_eq_append_getElem hjf, snoc_iff, and_assoc]
              unfold B8 at hc1 hc2
              generalize L[j] = x1 at *
              generalize first[j] = x2 at *
              clear hu0 hv0 hb1 hb2
              go_wp2_with fail
              go_roundw
              case rel => exact ⟨j + 1, v', by omega, hv255, rfl, by go_num, by trivial, HVX.out⟩
              case measure => simp [intOf]; omega
            · have HVE : Hid (v = 0 ↔ ∀ z ∈ parts.take (k + 1), z.2 = first) := by
                have h1 := HV.out
                rw [List.take_of_length_le (by rw [HZL.out]; omega), List.take_of_length_le (by rw [HFL.out]; omega), HW.out] at h1
                show _ ↔ _
                rw [h1, HNX.out]
              clear HV
              go_wp2_with fail
              go_roundw
              case rel => exact ⟨k + 1, v, by omega, hv, rfl, by go_num, by trivial, HVE.out⟩
              case measure => simp [intOf]; omega
        · have HE : Hid (y = 0 ↔ ∀ z ∈ parts, z.2 = first) := by
            have h1 := HW.out
            rw [List.take_of_length_le (by rw [HN.out]; omega)] at h1
            exact h1
          clear HW H1
          go_wp2_with fail
          go_ret
          refine ⟨_, rfl, ?_, Q.refl _⟩
          rw [← HE.out, beq_iff_eq]
          omega
end Go.Proofs.YtcdbffgmgfblkaaDoor
