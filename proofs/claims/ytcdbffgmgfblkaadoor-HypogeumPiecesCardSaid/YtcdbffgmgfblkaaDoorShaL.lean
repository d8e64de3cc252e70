/- The laws' helpers of chapter 01: bytes, sums, text. -/
import Derived.Test.YtcdbffgmgfblkaaDoorShaO
import Derived.Test.YtcdbffgmgfblkaaDoorStrC
import Derived.Lib.SlBytesConst
import Derived.Test.YtcdbffgmgfblkaaDoorBts
import Derived.Test.YtcdbffgmgfblkaaDoorOwn
namespace Go.Proofs.YtcdbffgmgfblkaaDoor
set_option linter.unusedVariables false
set_option linter.unusedSimpArgs false
open Go.RowKit

set_option maxHeartbeats 1000000 in
theorem lawBytes (A : Option Addr) (n c : Nat) (w : World) (hnc : n ≤ c) (hcm : c ≤ 9223372036854775807) : Calls Tryd.prog 14 #[.slice A n c] w fun e w' => e = .returned (.slice A (min n 3000) c) ∧ w = w' := by
  obtain ⟨i0, hi, hz0, hz1, hz2⟩ := info_parts info8
  obtain ⟨m, hm⟩ : ∃ m, m = min n 3000 := ⟨_, rfl⟩
  have hmc : m ≤ c := by omega
  rw [← hm]
  have HM := Lib.hid hm
  clear hm
  go_enter Tryd.func14, Tryd.ntmps14
  go_wp2_with (first
    | (refine gate 6 rfl ?_; refine wpList_min2 rfl (.tmp 5) (.const (.int .i64 3000)) _ rfl .i64 n 3000 m rfl rfl HM.out ?_)
    | (refine gate 7 rfl ?_; refine wpList_slice_hi rfl 22 (.tmp 3) (.tmp 6) rfl 5 Tryd.underlying22 i0 hi _ _ _ rfl .i64 m rfl hmc ?_))
  go_ret
  exact ⟨rfl, rfl⟩

theorem alloc_size (w : World) (o : Obj) : (w.alloc o).heap.size = w.heap.size + 1 := Array.size_push ..
theorem sees_marked (w : World) (cs : List Value) (t : TypeId) (fz : Nat × Nat) : Sees (w.alloc (.cells cs.toArray t fz)) (w.heap.size + 1) (some ⟨w.heap.size, 0, none⟩) cs := fun _ =>
  ⟨_, 0, rfl, by omega, fun j u hu => by
    have h := heap_alloc_new w (.cells cs.toArray t fz)
    simp only [World.cell?, h]
    simpa using hu⟩
/-- The letters in two parts. -/
abbrev abcW (w : World) : World := ((w.alloc (.cells #[.int .u8 97] 5 (1, 2))).alloc (.cells #[.int .u8 98, .int .u8 99] 5 (2, 3))).alloc (.cells #[.slice (some ⟨w.heap.size, 0, none⟩) 1 1, .slice none 0 0, .slice (some ⟨w.heap.size + 1, 0, none⟩) 2 2] 22)
theorem abc_ok (w : World) (hG : Glob w) : Calls Tryd.prog 18 #[.slice (some ⟨w.heap.size + 1 + 1, 0, none⟩) 3 3] (abcW w) fun e w' => ∃ V, e = .returned V ∧ Hid (AggIs V 32 (arrF [186, 120, 22, 191, 143, 1, 207, 234, 65, 65, 64, 222, 93, 174, 34, 35, 176, 3, 97, 163, 150, 23, 122, 156, 180, 16, 255, 97, 242, 0, 21, 173]) ∧ Q w w') := by
  have q1 : Q w (abcW w) := (((Q.refl w).alloc _).alloc _).alloc _
  have s1 : SeesP (w.alloc (.cells #[.int .u8 97] 5 (1, 2))) (· < w.heap.size + 1) (some ⟨w.heap.size, 0, none⟩) [.int .u8 97] := sees_marked w [.int .u8 97] _ _
  have s2 : SeesP ((w.alloc (.cells #[.int .u8 97] 5 (1, 2))).alloc (.cells #[.int .u8 98, .int .u8 99] 5 (2, 3))) (· < w.heap.size + 1 + 1) (some ⟨w.heap.size + 1, 0, none⟩) [.int .u8 98, .int .u8 99] := by
    have := sees_marked (w.alloc (.cells #[.int .u8 97] 5 (1, 2))) [.int .u8 98, .int .u8 99] 5 (2, 3)
    simpa [alloc_size] using this
  have z1 : (abcW w).heap.size = w.heap.size + 3 := by simp [abcW, alloc_size]
  have s3 : SeesP (abcW w) (· < (abcW w).heap.size) (some ⟨w.heap.size + 1 + 1, 0, none⟩) [.slice (some ⟨w.heap.size, 0, none⟩) 1 1, .slice none 0 0, .slice (some ⟨w.heap.size + 1, 0, none⟩) 2 2] := by
    have := SeesP.new ((w.alloc (.cells #[.int .u8 97] 5 (1, 2))).alloc (.cells #[.int .u8 98, .int .u8 99] 5 (2, 3))) [.slice (some ⟨w.heap.size, 0, none⟩) 1 1, .slice none 0 0, .slice (some ⟨w.heap.size + 1, 0, none⟩) 2 2] 22
    rw [z1]
    simpa [alloc_size, abcW] using this
  have t2 := (s2.alloc (fun b hb => by simpa [alloc_size] using hb) (.cells #[.slice (some ⟨w.heap.size, 0, none⟩) 1 1, .slice none 0 0, .slice (some ⟨w.heap.size + 1, 0, none⟩) 2 2] 22)).more (ok' := (· < (abcW w).heap.size)) (fun b hb => by rw [z1]; omega)
  have t1 := ((s1.alloc (fun b hb => by simpa [alloc_size] using hb) (.cells #[.int .u8 98, .int .u8 99] 5 (2, 3))).alloc (fun b hb => by simp [alloc_size]; omega) (.cells #[.slice (some ⟨w.heap.size, 0, none⟩) 1 1, .slice none 0 0, .slice (some ⟨w.heap.size + 1, 0, none⟩) 2 2] 22)).more (ok' := (· < (abcW w).heap.size)) (fun b hb => by rw [z1]; omega)
  refine (of_ok (some ⟨w.heap.size + 1 + 1, 0, none⟩) 3 3 [(.slice (some ⟨w.heap.size, 0, none⟩) 1 1, [97]), (.slice none 0 0, []), (.slice (some ⟨w.heap.size + 1, 0, none⟩) 2 2, [98, 99])] (· < (abcW w).heap.size) (abcW w) (hG.q q1) rfl s3 ?_ (fun b hb => hb) (show 3 ≤ 10000000000 by omega) (by omega)).mono ?_
  · intro z hz
    simp only [List.mem_cons, List.not_mem_nil, or_false] at hz
    rcases hz with rfl | rfl | rfl
    · exact ⟨_, _, _, rfl, rfl, t1, by simp⟩
    · exact ⟨_, _, _, rfl, rfl, SeesP.nil _ _ _, by simp⟩
    · exact ⟨_, _, _, rfl, rfl, t2, by simp⟩
  · rintro e w' ⟨V, rfl, h⟩
    have h' := h.out
    rw [show partsL [(.slice (some ⟨w.heap.size, 0, none⟩) 1 1, [97]), (.slice none 0 0, []), (.slice (some ⟨w.heap.size + 1, 0, none⟩) 2 2, [98, 99])] = [97, 98, 99] from rfl, sha_abc] at h'
    exact ⟨V, rfl, h'.1, q1.step h'.2⟩
set_option maxHeartbeats 8000000 in
set_option maxRecDepth 100000 in
theorem sums_ok (w : World) (hG : Glob w) : Calls Tryd.prog 16 #[] w fun e w' => e = .returned (.bool true) ∧ Hid (Q w w') := by
  have habc := Lib.hid (abc_ok w hG)
  have kc := fun (w : World) (C : Array Value) (n c : Nat) => Lib.run_convert_bytes_const (P := Tryd.prog) w 22 5 C n c Tryd.underlying22 Tryd.underlying5
  have k1 := kc w #[.int .u8 97] 1 1
  have k2 := kc (w.alloc (.cells #[.int .u8 97] 5 (1, 2))) #[.int .u8 98, .int .u8 99] 2 2
  rw [alloc_size] at k2
  clear hG kc
  go_enter Tryd.func16, Tryd.ntmps16
  go_wp2_with (first
    | (go_at_call 18; go_loud ((with_reducible refine Calls.mono habc.out ?_); rintro e w1 ⟨V, rfl, H1⟩))
    | (refine gate 1 rfl ?_; go_loud (refine wpList_alloc_row rfl 28 rfl _ (zero32 _) 32 _ rfl zer32_get ?_; intro w2 hr2 hx2; have H2 := Lib.hid (And.intro hr2 hx2); clear hr2 hx2))
    | (refine wpList_store_all rfl 28 (.tmp 1) (.tmp 7) rfl w1.heap.size rfl V rfl 32 info32b _ H1.out.1 (fun i _ => rfl) 28 _ H2.out.1 ?_; intro w3 hr3 hp3; have H3 := Lib.hid (And.intro hr3 hp3); have c0 := hr3.cell (i := 0) (by omega); have c1 := hr3.cell (i := 1) (by omega); have c31 := hr3.cell (i := 31) (by omega); simp only [arrF, List.getD_cons_zero, List.getD_cons_succ, B8] at c0 c1 c31; clear hr3 hp3))
  go_ret
  exact ⟨rfl, H3.out.2.q (H2.out.2.q H1.out.2) (H1.out.2.size)⟩
end Go.Proofs.YtcdbffgmgfblkaaDoor
