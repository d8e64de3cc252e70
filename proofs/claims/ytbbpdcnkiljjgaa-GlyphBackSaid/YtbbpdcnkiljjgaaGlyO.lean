/- GlyphOnce. -/
import Derived.Test.YtbbpdcnkiljjgaaGlyH
import Derived.Test.YtbbpdcnkiljjgaaGlyL
namespace Go.Proofs.Ytbbpdcnkiljjgaa
set_option linter.unusedVariables false
set_option linter.unusedSimpArgs false
open Go.RowKit

theorem openZ (w : World) (k : Nat) (z : Int) (hz : z = (k : Int)) (hk : k ≤ 255) (A : Option Addr) (c m : Nat) (L : List Nat) (ok : Nat → Prop) (hm : L.length = m) (hs : SeesP w ok A (L.map B8)) (hok : ∀ b, ok b → b < w.heap.size) (hby : ∀ x ∈ L, x ≤ 255) (hlen : m ≤ 140737488355328) (hmc : m ≤ c) (hc : c ≤ 9223372036854775807) (hAc : A = none → c = 0) :
    Calls Try.prog 20 #[.int .u8 z, .slice A m c] w (InNew w (openRd k L)) := by
  subst hz; exact open_in k hk A c m L ok w hm hs hok hby hlen hmc hc hAc
theorem openRd_ok (k : Nat) (B : List Nat) : openRd k ([72, 89, k] ++ B) = (0, B) := by
  unfold openRd
  rw [if_pos (by rw [show min ([72, 89, k] ++ B).length 3 = 3 by simp]; rfl), if_neg (by simp)]; rfl
/-- A number that was read: it is written so. -/
theorem numRd_once {limit : Int} {B R : List Nat} {v : Nat} (hb : ∀ x ∈ B, x ≤ 255) (h : numRd limit (0, B) = (v, (0, R))) : B = numL v ++ R ∧ v < 4611686018427387904 ∧ (v : Int) ≤ limit := by
  unfold numRd at h
  rw [if_pos rfl] at h
  by_cases he : (rdNum limit 0 0 B).2.1 = 0
  · rw [if_pos he, Prod.mk.injEq, Prod.mk.injEq] at h
    obtain ⟨a, h1, h2, h3, h4, _⟩ := rdNum_once limit B 0 0 v R hb (by rw [← h.1, ← h.2.2]; exact Prod.ext rfl (Prod.ext he rfl))
    have : v = a := by omega
    subst this
    exact ⟨h2, h3, h4⟩
  · simp only [if_neg he, Prod.mk.injEq] at h
    exact absurd h.2.1 he
theorem numRd_err {limit : Int} {s t : Nat × List Nat} {v : Nat} (h : numRd limit s = (v, t)) (ht : t.1 ≠ 0) : v = 0 := by
  unfold numRd at h
  split at h
  · split at h
    · rw [Prod.mk.injEq] at h
      rw [← h.2] at ht
      exact absurd rfl ht
    · rw [Prod.mk.injEq] at h
      exact h.1.symm
  · rw [Prod.mk.injEq] at h
    exact h.1.symm

theorem own_max {w : World} {base : Nat} {e : TypeId} {n m c : Nat} {A : Option Addr} {xs : List Value} (h : w.ownsRow base e 1 (.slice A m c) n xs) : c ≤ 9223372036854775807 := by
  rcases h.2 with ⟨h1, h2⟩ | ⟨g, cap, cur, h1, _, _, _, h2, _⟩
  · injection h1 with _ h3 h4
    omega
  · injection h1 with _ h3 h4
    unfold maxLen at h2
    omega
/-- Open of bytes that an append made: what is written behind a head. -/
theorem open_own {w0 w : World} (k : Nat) (hk : k ≤ 255) (z : Int) (hz : z = (k : Int)) (A : Option Addr) (n c : Nat) (B : List Nat) (hn : B.length + 3 = n) (hB : ∀ x ∈ B, x ≤ 255) (hlen : n ≤ 140737488355328) (h : w.ownsRow w0.heap.size 5 1 (.slice A n c) n ([72, 89, k].map B8 ++ B.map B8)) :
    Calls Try.prog 20 #[.int .u8 z, .slice A n c] w (InNew w (0, B)) := by
  have h1 := openZ w k z hz hk A c n ([72, 89, k] ++ B) _ (by simp; omega) (by rw [List.map_append]; exact sees_own h) (fun b (hb : _ ∧ _) => hb.2) (fun x hx => by simp only [List.mem_append, List.mem_cons, List.not_mem_nil, or_false] at hx; rcases hx with hx | hx; omega; exact hB x hx) hlen (own_cap h).1 (own_max h) (own_nil h)
  rw [openRd_ok] at h1
  exact h1

theorem run_slice_lo {P : Program} (t : TypeId) (e : TypeId) (ht : P.underlying t = some (.slice e)) (i : TypeInfo) (hi0 : P.info? e = some i) (hs : i.size = 1) (g o n c l : Nat) (k : IntKind) (hl : l ≤ n) (hn : n ≤ c) (hc : c ≠ l) (w : World) :
    (Instr.sliceAt t (.slice (some ⟨g, o, none⟩) n c) (some (.int k (l : Int))) none none).run P w = .ok (.slice (some ⟨g, o + l, none⟩) (n - l) (c - l)) w := by
  have he : P.elem t = e := by simp [Program.elem, ht]
  have ht' : P.underlying t = some (.slice (P.elem t)) := by rw [he]; exact ht
  rw [run_sliceAt_slice w t _ _ _ _ ht', run_slice_l w t _ n c ht' k l (by omega) (by omega), he, size_run hi0, hs]
  simp only [Result.andThen, sliced, Int.toNat_natCast]
  rw [if_neg hc, Nat.mul_one]
  simp [Addr.add]
theorem cutA_some {g o c l : Nat} (h : c ≠ l) : cutA (some ⟨g, o, none⟩) c l 1 = some ⟨g, o + l, none⟩ := by
  unfold cutA; rw [if_neg h]; simp [Addr.add]
theorem bytesK {w0 w : World} {g c : Nat} {L : List Nat} (h : Hid (OutN w0 w g (0, L) c)) (hc : c ≤ 100000) : Calls Try.prog 9 #[.pointer (some ⟨g, 0, none⟩)] w fun e w' => ∃ A cp n, e = .returned (.tuple #[.slice A n cp, .int .i64 0]) ∧ Hid (L.length = n ∧ w'.ownsRow w0.heap.size 5 1 (.slice A n cp) n (L.map B8) ∧ Q w0 w' ∧ ∀ x ∈ L, x ≤ 255) := by
  refine (bytesIn h hc).mono ?_
  rintro e w' ⟨A, cp, rfl, h1⟩
  exact ⟨A, cp, L.length, rfl, rfl, h1.out.1, h1.out.2.1, h1.out.2.2⟩

set_option maxHeartbeats 8000000 in
set_option maxRecDepth 100000 in
theorem once_ok (A : Option Addr) (n c m : Nat) (B : List Nat) (w : World) (hn : n ≤ c) (hc : c ≤ 9223372036854775807) (hm : m = min n 12) (hB : B.length = m) (hs : SeesP w (· < w.heap.size) A (B.map B8)) (hby : ∀ x ∈ B, x ≤ 255) (hAc : A = none → c = 0) :
    Calls Try.prog 6 #[.slice A n c] w fun e w' => e = .returned (.bool true) ∧ Hid (Q w w') := by
  obtain ⟨i0, hi, hz0, hz1, hz2⟩ := info_parts info8
  have hm' : min (n : Int) 12 = (m : Int) := by omega
  have hmc : m ≤ c := by omega
  have hm12 : m ≤ 12 := by omega
  have HB := Lib.hid hB
  have HS := Lib.hid hs
  have HBY := Lib.hid hby
  have HAC := Lib.hid hAc
  have hb := fun w => Lib.hid (beginZ w 1 1 rfl (by omega))
  have hgl := fun w => Lib.hid (glyphs_ok w)
  obtain ⟨⟨v, e, R⟩, hrd⟩ : ∃ r, numRd 4611686018427387904 (0, B) = r := ⟨_, rfl⟩
  have HRD := Lib.hid hrd
  have HNUM : Hid (∀ w2 base g, InHas w2 base g 0 B → Calls Try.prog 21 #[.pointer (some ⟨g, 0, none⟩), .int .i64 4611686018427387904] w2 (InDone w2 base g (.int .i64 (v : Int)) (e, R))) := fun w2 base g h => by
    have h1 := num_in base g 0 B w2 4611686018427387904 h (by omega)
    rw [hrd] at h1; exact h1
  clear hm hB hs hAc hrd
  have HNEW := Lib.hid (own_new w 5 [.int .u8 72, .int .u8 89, .int .u8 1] (by unfold maxLen; simp))
  by_cases he : e = 0
  · subst he
    have hv0 := numRd_once hby HRD.out
    have HV0 : Hid ((0 : Int) ≤ (v : Int)) := by show _ ≤ _; omega
    have HV : Hid ((v : Int) < 4611686018427387904) := by show _ < _; omega
    have HBV := Lib.hid hv0.1
    clear hv0 hby
    go_enter Try.func6, Try.ntmps6
    go_wp2_with (first
      | (at_builtin; go_loud (refine wpList_append_row rfl (.tmp 12) (.tmp 13) 23 rfl w.heap.size 5 i0 (.int .u8 0) 1 Try.underlying23 hi hz0 hz1 hz2 rfl _ 3 _ rfl HNEW.out (fun b => b < w.heap.size) A m c (B.map B8) rfl HAC.out (by rw [List.length_map, HB.out]) (HS.out.alloc (fun b hb => hb) _) (B8_one _) (by unfold maxLen; omega) (by omega) (by rw [alloc_size]; omega) ?_; intro v1 w1 hown1 hgr1; obtain ⟨A1, c1, rfl⟩ := own_form hown1; have HQ1 := Lib.hid (hgr1.q ((Q.refl w).alloc _) HNEW.out); have HO1 := Lib.hid hown1; clear hown1 hgr1))
      | (go_at_call 20; go_loud ((with_reducible refine (open_own 1 (by omega) 1 rfl A1 (3 + m) c1 B (by rw [HB.out]; omega) HBY.out (by omega) HO1.out).mono ?_); rintro e2 w2 ⟨g, rfl, h1, h2⟩; have H2 := Lib.hid (And.intro h1 h2); clear h1 h2))
      | (go_at_call 21; go_loud ((with_reducible refine (HNUM.out w2 _ g H2.out.1).mono ?_); rintro e3 w3 ⟨rfl, h1, h2⟩; have H3 := Lib.hid (And.intro h1 h2); clear h1 h2))
      | (go_at_call 10; go_loud ((with_reducible refine (hgl _).out.mono ?_); rintro e4 w4 ⟨rfl, HG⟩; have H4 := Lib.hid (H3.out.1.q HG.out)))
      | (go_at_call 22; go_loud ((with_reducible refine (err_in _ g _ _ _ H4.out).mono ?_); rintro e5 w5 ⟨rfl, rfl⟩))
      | (go_at_call 11; go_loud ((with_reducible refine (hb _).out.mono ?_); rintro e w7 ⟨g2, rfl, H7⟩))
      | (go_at_call 14; go_loud ((with_reducible refine (numIn H7 (v : Int) (by omega) HV0.out HV.out).mono ?_); rintro e w8 ⟨rfl, H8⟩; rw [Int.toNat_natCast] at H8))
      | (go_at_call 9; go_loud ((with_reducible refine (bytesK H8 (by omega)).mono ?_); rintro e w9 ⟨A9, c9, n9, rfl, H9⟩)))
    obtain ⟨g9, hA9, hn9, hn9m, hc9⟩ : ∃ g9, A9 = some ⟨g9, 0, none⟩ ∧ 4 ≤ n9 ∧ n9 ≤ 3 + m ∧ n9 ≤ c9 := by
      have h1 := H9.out.2.1
      have h2 := numL_pos v
      have h3 := H9.out.1
      have h4 := congrArg List.length HBV.out
      rw [List.length_append] at h3 h4
      rw [HB.out] at h4
      have hl : [72, 89, 1].length = 3 := rfl
      obtain ⟨g9, cap, h5⟩ := Go.Joins.ownsRow_form h1 (by omega)
      injection h5 with h5 _ _
      exact ⟨g9, h5, by omega, by omega, (own_cap h1).1⟩
    subst hA9
    obtain ⟨r9, hr9⟩ : ∃ r, n9 = r + 3 := ⟨n9 - 3, by omega⟩
    have hw1 : IntKind.i64.wrap (3 + (m : Int)) = 3 + (m : Int) := IntWalk.i64_in _ (by omega)
    have hle : decide ((n9 : Int) ≤ 3 + (m : Int)) = true := by rw [decide_eq_true_iff]; omega
    have hw2 : IntKind.i64.wrap ((n9 : Int) - 3) = (r9 : Int) := by rw [IntWalk.i64_in _ (by omega)]; omega
    have hr9c : r9 ≤ c := by omega
    have hn93 : 3 ≤ n9 := by omega
    have hc93 : (c9 = 3) = False := by rw [eq_iff_iff, iff_false]; omega
    have HQ9 : Q w w9 := (H3.out.2.q (HQ1.out.trans' H2.out.2) (fun k hk => by subst hk; exact Nat.le_trans HQ1.out.size H2.out.1.new)).trans' (HG.out.trans' H9.out.2.2.1)
    have hsl : ∀ w, (Instr.sliceAt 23 (.slice (some ⟨g9, 0, none⟩) n9 c9) (some (.int .i64 3)) none none).run Try.prog w = .ok (.slice (some ⟨g9, 3, none⟩) r9 (c9 - 3)) w := fun w => by
      have h := run_slice_lo (P := Try.prog) 23 5 Try.underlying23 i0 hi hz1 g9 0 n9 c9 3 .i64 hn93 hc9 (by omega) w
      rw [show n9 - 3 = r9 by omega] at h
      simpa using h
    have hk1 : ∀ a, (convert 23 9 (.slice (some ⟨g9, 3, none⟩) r9 (c9 - 3))).run Try.prog (w9.drewN a) = .ok (.string (strB (numL v))) (w9.drewN a) := fun a => by
      have h1 := (sees_own H9.out.2.1).cut (c := c9) (l := 3) (s := 1) (by rw [List.length_map, H9.out.1]; omega)
      rw [cutA_some (by omega), Nat.mul_one, ← List.map_drop] at h1
      exact run_convert_sees (P := Try.prog) (w9.drewN a) 23 9 5 Try.underlying23 Try.underlying5 Try.underlying9 _ _ r9 (c9 - 3) (numL v) (by have h2 := H9.out.1; simp only [List.length_append, List.length_cons, List.length_nil] at h2; omega) (h1.drewN a)
    have hk2 : ∀ a, (convert 23 9 (.slice A r9 c)).run Try.prog (w9.drewN a) = .ok (.string (strB (numL v))) (w9.drewN a) := fun a => by
      have h1 := (HS.out.below HQ9).take r9
      have hrl : r9 = (numL v).length := by have h2 := H9.out.1; simp only [List.length_append, List.length_cons, List.length_nil] at h2; omega
      rw [← List.map_take, HBV.out, hrl, List.take_left] at h1
      exact run_convert_sees (P := Try.prog) (w9.drewN a) 23 9 5 Try.underlying23 Try.underlying5 Try.underlying9 _ A r9 c (numL v) hrl.symm (h1.drewN a)
    have HQH := Lib.hid HQ9
    clear hr9 HQ9
    go_quiet (fail)
    go_wp2_with fail
    go_ret
    exact ⟨rfl, Lib.hid (HQH.out.drewN _)⟩
  · clear hby
    have d : ((e : Int) == 0) = false := beq_eq_false_iff_ne.2 (by omega)
    have d' : ((e : Int) != 0) = true := bne_iff_ne.2 (by omega)
    have hv : v = 0 := numRd_err HRD.out he
    subst hv
    clear he
    go_enter Try.func6, Try.ntmps6
    go_wp2_with (first
      | (at_builtin; go_loud (refine wpList_append_row rfl (.tmp 12) (.tmp 13) 23 rfl w.heap.size 5 i0 (.int .u8 0) 1 Try.underlying23 hi hz0 hz1 hz2 rfl _ 3 _ rfl HNEW.out (fun b => b < w.heap.size) A m c (B.map B8) rfl HAC.out (by rw [List.length_map, HB.out]) (HS.out.alloc (fun b hb => hb) _) (B8_one _) (by unfold maxLen; omega) (by omega) (by rw [alloc_size]; omega) ?_; intro v1 w1 hown1 hgr1; obtain ⟨A1, c1, rfl⟩ := own_form hown1; have HQ1 := Lib.hid (hgr1.q ((Q.refl w).alloc _) HNEW.out); have HO1 := Lib.hid hown1; clear hown1 hgr1))
      | (go_at_call 20; go_loud ((with_reducible refine (open_own 1 (by omega) 1 rfl A1 (3 + m) c1 B (by rw [HB.out]; omega) HBY.out (by omega) HO1.out).mono ?_); rintro e2 w2 ⟨g, rfl, h1, h2⟩; have H2 := Lib.hid (And.intro h1 h2); clear h1 h2))
      | (go_at_call 21; go_loud ((with_reducible refine (HNUM.out w2 _ g H2.out.1).mono ?_); rintro e3 w3 ⟨rfl, h1, h2⟩; have H3 := Lib.hid (And.intro h1 h2); clear h1 h2))
      | (go_at_call 10; have HH4 := H4.out; (with_reducible refine (hgl _).out.mono ?_); rintro e6 w6 ⟨rfl, HG2⟩)
      | (go_at_call 10; go_loud ((with_reducible refine (hgl _).out.mono ?_); rintro e4 w4 ⟨rfl, HG⟩; have H4 := Lib.hid (H3.out.1.q HG.out)))
      | (go_at_call 22; go_loud ((with_reducible refine (err_in _ g _ _ _ H4.out).mono ?_); rintro e5 w5 ⟨rfl, rfl⟩)))
    go_ret
    exact ⟨rfl, Lib.hid ((H3.out.2.q (HQ1.out.trans' H2.out.2) (fun k hk => by subst hk; exact Nat.le_trans HQ1.out.size H2.out.1.new)).trans' (HG.out.trans' HG2.out))⟩
theorem once_true (A : Option Addr) (n c : Nat) (zs : List Int) (w : World) (h : IsRow .u8 w A n c zs) :
    Calls Try.prog 6 #[.slice A n c] w fun e w' => e = .returned (.bool true) ∧ Below w.heap.size w w' := by
  obtain ⟨h1, h2, h3, h4, h5, h6⟩ := row8 h (min n 12) (by omega)
  exact (once_ok A n c (min n 12) _ w h4 h5 rfl h1 h2 h3 h6).mono fun e w' ⟨h1, h2⟩ => ⟨h1, h2.out⟩
end Go.Proofs.Ytbbpdcnkiljjgaa
