/- SumOf: a sum as a text. -/
import Derived.Test.YtcdbffgmgfblkaaDoorShaQ
import Derived.Test.YtcdbffgmgfblkaaDoorShaSm
namespace Go.Proofs.YtcdbffgmgfblkaaDoor
set_option linter.unusedVariables false
set_option linter.unusedSimpArgs false
open Go.RowKit

theorem wrap64_small {x : Nat} (h : x ≤ 9223372036854775807) : wrap64 (x : Int) = (x : Int) := by unfold wrap64; omega
theorem sees_arr {w : World} {g n : Nat} {t : TypeId} {L : List Nat} {ok : Nat → Prop} (hr : w.rowIs g t n (arrF L)) (hl : L.length = n) (hok : ok g) : SeesP w ok (some ⟨g, 0, none⟩) (L.map B8) := fun _ => by
  refine ⟨g, 0, rfl, hok, fun j u hu => ?_⟩
  have hj : j < n := by have := (List.getElem?_eq_some_iff.1 hu).1; rw [List.length_map] at this; omega
  rw [Nat.zero_add, hr.cell hj]
  rw [List.getElem?_map, Option.map_eq_some_iff] at hu
  obtain ⟨x, hx, rfl⟩ := hu
  unfold arrF
  rw [List.getD_eq_getElem?_getD, hx]; rfl
set_option maxHeartbeats 8000000 in
set_option maxRecDepth 100000 in
theorem text_ok (V : Value) (L : List Nat) (w : World) (hV : AggIs V 32 (arrF L)) (hl : L.length = 32) : Calls Tryd.prog 17 #[V] w fun e w' => e = .returned (.string (strB L)) ∧ Hid (Q w w') := by
  have HV := Lib.hid hV
  have HL := Lib.hid hl
  clear hV hl
  go_enter Tryd.func17, Tryd.ntmps17
  go_wp2_with (first
    | (refine gate 1 rfl ?_; refine wpList_box_row rfl 28 (.tmp 0) rfl V rfl 32 _ HV.out ?_; intro w2 hr2 hx2; have H2 := Lib.hid (And.intro hr2 hx2); clear hr2 hx2)
    | (refine gate 4 rfl ?_; refine wpList_convert_sees rfl 22 9 5 (.tmp 3) rfl Tryd.underlying22 Tryd.underlying5 Tryd.underlying9 (fun _ => True) (some ⟨w.heap.size, 0, none⟩) 32 32 L rfl HL.out (sees_arr H2.out.1 HL.out trivial) ?_))
  go_ret
  exact ⟨rfl, H2.out.2.q (Q.refl _)⟩

theorem cut_le (u m : Nat) : ∃ i : Nat, (u : Int) % ((m : Int) + 1) = (i : Int) ∧ i ≤ m := by
  have h := Nat.mod_lt u (show m + 1 > 0 by omega)
  exact ⟨u % (m + 1), by push_cast; rfl, by omega⟩
theorem two_cuts (u1 u2 m : Nat) (hm : m ≤ 100000) : ∃ i k i0 k0 : Nat, (u1 : Int) % ((m : Int) + 1) = (i0 : Int) ∧ (u2 : Int) % ((m : Int) + 1) = (k0 : Int) ∧ wrap64 (i0 : Int) = (i0 : Int) ∧ wrap64 (k0 : Int) = (k0 : Int) ∧
    i = min i0 k0 ∧ (k : Int) = max (i0 : Int) (k0 : Int) ∧ i ≤ k ∧ k ≤ m := by
  obtain ⟨i0, g1, h1⟩ := cut_le u1 m
  obtain ⟨k0, g2, h2⟩ := cut_le u2 m
  refine ⟨min i0 k0, max i0 k0, i0, k0, g1, g2, wrap64_small (by omega), wrap64_small (by omega), rfl, by omega, by omega, by omega⟩

section
variable {P : Program} (t e : TypeId) (ht : P.underlying t = some (.slice e)) (i : TypeInfo) (hi0 : P.info? e = some i) (hs : i.size = 1) (A : Option Addr) (n c : Nat)
include ht hi0
theorem run_cut_hi (k : IntKind) (h : Nat) (hc : h ≤ c) (w : World) : (Instr.sliceAt t (.slice A n c) none (some (.int k (h : Int))) none).run P w = .ok (.slice A h c) w := by
  have he : P.elem t = e := by simp [Program.elem, ht]
  have ht' : P.underlying t = some (.slice (P.elem t)) := by rw [he]; exact ht
  rw [run_sliceAt_slice w t _ _ _ _ ht', run_slice_h w t A n c ht' k h (by omega) (by omega), he, size_run hi0]
  have := cutA_zero A c i.size
  simp only [Result.andThen, sliced]
  unfold cutA at this
  rw [this]; simp
include hs
theorem run_cut_lo (k : IntKind) (l : Nat) (hc : l ≤ n) (B : Option Addr) (hB : B = cutA A c l 1) (w : World) : (Instr.sliceAt t (.slice A n c) (some (.int k (l : Int))) none none).run P w = .ok (.slice B (n - l) (c - l)) w := by
  have he : P.elem t = e := by simp [Program.elem, ht]
  have ht' : P.underlying t = some (.slice (P.elem t)) := by rw [he]; exact ht
  rw [run_sliceAt_slice w t _ _ _ _ ht', run_slice_l w t A n c ht' k l (by omega) (by omega), he, size_run hi0, hs, hB]
  simp only [Result.andThen, sliced, Int.toNat_natCast]
  rfl
theorem run_cut_lh (k k' : IntKind) (l h : Nat) (hlh : l ≤ h) (hc : h ≤ c) (B : Option Addr) (hB : B = cutA A c l 1) (w : World) : (Instr.sliceAt t (.slice A n c) (some (.int k (l : Int))) (some (.int k' (h : Int))) none).run P w = .ok (.slice B (h - l) (c - l)) w := by
  have he : P.elem t = e := by simp [Program.elem, ht]
  have ht' : P.underlying t = some (.slice (P.elem t)) := by rw [he]; exact ht
  rw [run_sliceAt_slice w t _ _ _ _ ht', run_slice_lh w t A n c ht' k k' l h (by omega) (by omega) (by omega), he, size_run hi0, hs, hB]
  simp only [Result.andThen, sliced, Int.toNat_natCast]
  rfl
end

set_option maxHeartbeats 8000000 in
set_option maxRecDepth 100000 in
theorem sumOf_walk (A : Option Addr) (n c : Nat) (L : List Nat) (one two : Int) (w : World) (hG : Glob w) (hnc : n ≤ c) (hcm : c ≤ 9223372036854775807) (hl : L.length = min n 3000) (hs : Sees w w.heap.size A (L.map B8)) (hb : ∀ x ∈ L, x ≤ 255) :
    Calls Tryd.prog 3 #[.slice A n c, .int .i64 one, .int .i64 two] w fun e w' => e = .returned (.bool true) ∧ Below w.heap.size w w' := by
  obtain ⟨m, hm⟩ : ∃ m, m = min n 3000 := ⟨_, rfl⟩
  have hby := Lib.hid (fun w => lawBytes A n c w hnc hcm)
  rw [← hm] at hl hby
  have hm3 : m ≤ 3000 := by omega
  have hmc : m ≤ c := by omega
  have HG := Lib.hid hG
  have HL := Lib.hid hl
  have HS := Lib.hid hs
  have HB := Lib.hid hb
  clear hG hl hs hb hm hnc
  obtain ⟨u1, hu1, hu1'⟩ := wrap_u64 one
  obtain ⟨u2, hu2, hu2'⟩ := wrap_u64 two
  have d : ((m : Int) + 1 == 0) = false := beq_eq_false_iff_ne.2 (by omega)
  have e0 : IntKind.i64.wrap ((m : Int) + 1) = (m : Int) + 1 := IntWalk.i64_in _ (by omega)
  obtain ⟨i, k, i0, k0, g1, g2, g3, g4, g5, g6, hik, hkm⟩ := two_cuts u1 u2 m (by omega)
  have HGS := Lib.hid (And.intro g1 (And.intro g2 (And.intro g3 g4)))
  have HG5 := Lib.hid g5
  have HG6 := Lib.hid g6
  clear hu1' hu2' g1 g2 g3 g4 g5 g6
  go_enter Tryd.func3, Tryd.ntmps3
  go_wp2_with (go_at_call 14; (with_reducible refine (hby.out _).mono ?_); rintro e w1 ⟨rfl, rfl⟩)
  go_quiet (fail)
  rw [HGS.out.1, HGS.out.2.1, HGS.out.2.2.1, HGS.out.2.2.2]
  have HQ0 : Hid (Q w (w.drewN nq)) := (Q.refl w).drewN nq
  generalize w.drewN nq = wq at *
  go_wp2_with (first
    | (refine gate 30 rfl ?_; refine wpList_min2 rfl (.tmp 28) (.tmp 29) _ rfl .i64 i0 k0 i rfl rfl HG5.out ?_)
    | (refine gate 33 rfl ?_; refine wpList_max2 rfl (.tmp 31) (.tmp 32) _ rfl .i64 i0 k0 k rfl rfl HG6.out ?_)
    | (refine gate 35 rfl ?_; refine wpList_convert_sees rfl 22 9 5 (.tmp 34) rfl Tryd.underlying22 Tryd.underlying5 Tryd.underlying9 _ A m c L rfl HL.out (HS.out.below HQ0.out) ?_)
    | (go_at_call 15; go_loud ((with_reducible refine (refOf_ok L HB.out (by rw [HL.out]; omega) _).mono ?_); rintro e w2 ⟨rfl, H2⟩)))
  obtain ⟨i8, hi8, hz80, hz81, hz82⟩ := info_parts info8
  obtain ⟨B2, hB2⟩ : ∃ B, B = cutA A c i 1 := ⟨_, rfl⟩
  obtain ⟨B3, hB3⟩ : ∃ B, B = cutA A c k 1 := ⟨_, rfl⟩
  have s1 := run_cut_hi (P := Tryd.prog) 22 5 Tryd.underlying22 i8 hi8 A m c .i64 i (by omega)
  have s2 := run_cut_lh (P := Tryd.prog) 22 5 Tryd.underlying22 i8 hi8 hz81 A m c .i64 .i64 i k hik (by omega) B2 hB2
  have s3 := run_cut_lo (P := Tryd.prog) 22 5 Tryd.underlying22 i8 hi8 hz81 A m c .i64 k hkm B3 hB3
  have HQ2 : Hid (Q w w2.drew) := (HQ0.out.trans' H2.out).drew
  have HSUM := Lib.hid (sums_ok w2.drew (HG.out.q HQ2.out))
  have HTX : Hid (∀ V w', AggIs V 32 (arrF (sha L)) → Calls Tryd.prog 17 #[V] w' fun e w'' => e = .returned (.string (strB (sha L))) ∧ Hid (Q w' w'')) := fun V w' h => text_ok V (sha L) w' h (sha_len L)
  have HO1 : Hid (∀ w1, Q w w1 → Calls Tryd.prog 18 #[.slice (some ⟨w1.heap.size, 0, none⟩) 1 1] (w1.alloc (.cells #[.slice A m c] 22)) fun e w' => ∃ V, e = .returned V ∧ Hid (AggIs V 32 (arrF (sha L)) ∧ Q w w')) := fun w1 h1 => by
    have hq1 := h1.alloc (.cells #[.slice A m c] 22)
    have hle := h1.size
    refine (of_ok (some ⟨w1.heap.size, 0, none⟩) 1 1 [(.slice A m c, L)] (· < w1.heap.size + 1) _ (HG.out.q hq1) rfl (SeesP.new w1 [.slice A m c] _) (fun z hz => ?_) (fun b hb => by rw [alloc_size]; exact hb) ?_ (by omega)).mono ?_
    · simp only [List.mem_cons, List.not_mem_nil, or_false] at hz
      subst hz
      exact ⟨_, _, _, rfl, HL.out, (HS.out.below hq1).more (fun b hb => by omega), HB.out⟩
    · simp [partsL, HL.out]; omega
    · rintro e w' ⟨V, rfl, h⟩
      exact ⟨V, rfl, by simpa [partsL] using h.out.1, hq1.trans' h.out.2⟩
  have HO3 : Hid (∀ w1, Q w w1 → Calls Tryd.prog 18 #[.slice (some ⟨w1.heap.size, 0, none⟩) 3 3] (w1.alloc (.cells #[.slice A i c, .slice B2 (k - i) (c - i), .slice B3 (m - k) (c - k)] 22)) fun e w' => ∃ V, e = .returned V ∧ Hid (AggIs V 32 (arrF (sha L)) ∧ Q w w')) := fun w1 h1 => by
    have hq1 := h1.alloc (.cells #[.slice A i c, .slice B2 (k - i) (c - i), .slice B3 (m - k) (c - k)] 22)
    have hle := h1.size
    have hs1 := (HS.out.below hq1).more (ok' := (· < w1.heap.size + 1)) (fun b hb => by omega)
    have e1 : L.take i ++ ((L.take k).drop i ++ L.drop k) = L := by
      have h2 : L.take i = (L.take k).take i := by rw [List.take_take, Nat.min_eq_left hik]
      rw [h2, ← List.append_assoc, List.take_append_drop, List.take_append_drop]
    refine (of_ok (some ⟨w1.heap.size, 0, none⟩) 3 3 [(.slice A i c, L.take i), (.slice B2 (k - i) (c - i), (L.take k).drop i), (.slice B3 (m - k) (c - k), L.drop k)] (· < w1.heap.size + 1) _ (HG.out.q hq1) rfl (SeesP.new w1 [.slice A i c, .slice B2 (k - i) (c - i), .slice B3 (m - k) (c - k)] _) (fun z hz => ?_) (fun b hb => by rw [alloc_size]; exact hb) ?_ (by omega)).mono ?_
    · simp only [List.mem_cons, List.not_mem_nil, or_false] at hz
      rcases hz with rfl | rfl | rfl
      · exact ⟨_, _, _, rfl, by rw [List.length_take, HL.out]; omega, by rw [List.map_take]; exact hs1.take i, fun x hx => HB.out x (List.mem_of_mem_take hx)⟩
      · refine ⟨_, _, _, rfl, by rw [List.length_drop, List.length_take, HL.out]; omega, ?_, fun x hx => HB.out x (List.mem_of_mem_take (List.mem_of_mem_drop hx))⟩
        have h3 := (hs1.take k).cut (c := c) (l := i) (s := 1) (by rw [List.length_take, List.length_map, HL.out]; omega)
        rw [Nat.mul_one, ← List.map_take, ← List.map_drop, ← hB2] at h3
        exact h3
      · refine ⟨_, _, _, rfl, by rw [List.length_drop, HL.out], ?_, fun x hx => HB.out x (List.mem_of_mem_drop hx)⟩
        have h3 := hs1.cut (c := c) (l := k) (s := 1) (by rw [List.length_map, HL.out]; omega)
        rw [Nat.mul_one, ← List.map_drop, ← hB3] at h3
        exact h3
    · simp only [partsL, List.flatMap_cons, List.flatMap_nil, List.append_nil, e1, HL.out]; omega
    · rintro e w' ⟨V, rfl, h⟩
      refine ⟨V, rfl, ?_, hq1.trans' h.out.2⟩
      have h4 := h.out.1
      simp only [partsL, List.flatMap_cons, List.flatMap_nil, List.append_nil, e1] at h4
      exact h4
  generalize k - i = d1 at *
  generalize c - i = d2 at *
  generalize m - k = d3 at *
  generalize c - k = d4 at *
  generalize strB (sha L) = S at *
  clear hB2 hB3
  go_region_held3 (fun _ => True) (trivial) (first
    | (go_at_call 16; go_loud ((with_reducible refine HSUM.out.mono ?_); rintro e w3 ⟨rfl, H3⟩; have HQ3 : Hid (Q w w3) := HQ2.out.trans' H3.out))
    | (go_at_call 18; (with_reducible refine (HO1.out w3 HQ3.out).mono ?_); rintro e w4 ⟨V4, rfl, H4⟩)
    | (go_at_call 17; (with_reducible refine (HTX.out V4 w4 H4.out.1).mono ?_); rintro e w5 ⟨rfl, H5⟩; have HQ5 : Hid (Q w w5) := H4.out.2.trans' H5.out)
    | (go_at_call 18; (with_reducible refine (HO3.out w5 HQ5.out).mono ?_); rintro e w6 ⟨V6, rfl, H6⟩)
    | (go_at_call 17; (with_reducible refine (HTX.out V6 w6 H6.out.1).mono ?_); rintro e w7 ⟨rfl, H7⟩; have HQ7 : Hid (Q w w7) := H6.out.2.trans' H7.out))
  go_wp2_with fail
  go_ret
  exact ⟨rfl, HQ7.out⟩
theorem sumOf_true (A : Option Addr) (n c : Nat) (zs : List Int) (one : Int) (_ : (Lit.int .i64 one).wf = true) (two : Int) (_ : (Lit.int .i64 two).wf = true) (w : World) (w0 : IsRow .u8 w A n c zs) (hG : Glob w) :
    Calls Tryd.prog 3 #[.slice A n c, .int .i64 one, .int .i64 two] w fun e w' => e = .returned (.bool true) ∧ Below w.heap.size w w' := by
  obtain ⟨h1, h2, h3, h4, h5, h6⟩ := row8 w0 (min n 3000) (by omega)
  exact sumOf_walk A n c _ one two w hG h4 h5 h1 h2 h3
end Go.Proofs.YtcdbffgmgfblkaaDoor
