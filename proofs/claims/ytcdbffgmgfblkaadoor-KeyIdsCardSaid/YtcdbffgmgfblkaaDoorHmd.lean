/- SumKeyed. -/
import Derived.Test.YtcdbffgmgfblkaaDoorHmc
namespace Go.Proofs.YtcdbffgmgfblkaaDoor
set_option linter.unusedVariables false
set_option linter.unusedSimpArgs false
open Go.RowKit

theorem of_new (P : List (Value × List Nat)) (w w1 : World) (hG : Glob w) (hp : PartsB w (· < w.heap.size) P) (hq : Q w w1) (hlen : (partsL P).length ≤ 10000000) (hn : P.length ≤ 1000) :
    Calls Tryd.prog 18 #[.slice (some ⟨w1.heap.size, 0, none⟩) P.length P.length] (w1.alloc (.cells (P.map (·.1)).toArray 22)) fun e w' => ∃ V, e = .returned V ∧ Hid (AggIs V 32 (arrF (sha (partsL P))) ∧ Q w w') := by
  have hq1 := hq.alloc (.cells (P.map (·.1)).toArray 22)
  have hle := hq.size
  refine (of_ok (some ⟨w1.heap.size, 0, none⟩) P.length P.length P (· < w1.heap.size + 1) _ (hG.q hq1) rfl (SeesP.new w1 (P.map (·.1)) _) ((hp.belowP (fun _ h => h) hq1).more fun b hb => by omega) (fun b hb => by rw [alloc_size]; exact hb) (by omega) (by omega)).mono ?_
  rintro e w' ⟨V, rfl, h⟩
  exact ⟨V, rfl, h.out.1, hq1.trans' h.out.2⟩
theorem keyed_new (A : Option Addr) (n c : Nat) (K : List Nat) (P : List (Value × List Nat)) (w w1 : World) (hG : Glob w) (hK : K.length = n) (hsK : SeesP w (· < w.heap.size) A (K.map B8)) (hbK : ∀ x ∈ K, x ≤ 255) (hAc : A = none → c = 0) (hp : PartsB w (· < w.heap.size) P) (hq : Q w w1) (hKl : n ≤ 1000000) (hlen : (partsL P).length ≤ 10000000) (hn : P.length ≤ 1000) :
    Calls Tryd.prog 21 #[.slice A n c, .slice (some ⟨w1.heap.size, 0, none⟩) P.length P.length] (w1.alloc (.cells (P.map (·.1)).toArray 22)) fun e w' => ∃ V, e = .returned V ∧ Hid (AggIs V 32 (arrF (hmac K (partsL P))) ∧ Q w w') := by
  have hq1 := hq.alloc (.cells (P.map (·.1)).toArray 22)
  have hle := hq.size
  refine (keyed_ok A n c K (some ⟨w1.heap.size, 0, none⟩) P.length P.length P (· < w1.heap.size + 1) _ (hG.q hq1) hK ((hsK.belowP (fun _ h => h) hq1).more fun b hb => by omega) hbK hAc rfl (SeesP.new w1 (P.map (·.1)) _) (fun h => by cases h) ((hp.belowP (fun _ h => h) hq1).more fun b hb => by omega) (fun b hb => by rw [alloc_size]; exact hb) hKl (by omega) (by omega)).mono ?_
  rintro e w' ⟨V, rfl, h⟩
  exact ⟨V, rfl, h.out.1, hq1.trans' h.out.2⟩
/-- A part that is cut out of a row. -/
theorem part_hi {w : World} {ok : Nat → Prop} {A : Option Addr} {L : List Nat} {m c i : Nat} (hs : SeesP w ok A (L.map B8)) (hl : L.length = m) (hb : ∀ x ∈ L, x ≤ 255) (hi : i ≤ m) : PartsB w ok [(.slice A i c, L.take i)] := fun z hz => by
  simp only [List.mem_cons, List.not_mem_nil, or_false] at hz
  subst hz
  exact ⟨_, _, _, rfl, by rw [List.length_take]; omega, by rw [List.map_take]; exact hs.take i, fun x hx => hb x (List.mem_of_mem_take hx)⟩
theorem part_lo {w : World} {ok : Nat → Prop} {A B : Option Addr} {L : List Nat} {m c i : Nat} (hs : SeesP w ok A (L.map B8)) (hl : L.length = m) (hb : ∀ x ∈ L, x ≤ 255) (hm : m ≤ c) (hB : B = cutA A c i 1) : PartsB w ok [(.slice B (m - i) (c - i), L.drop i)] := fun z hz => by
  simp only [List.mem_cons, List.not_mem_nil, or_false] at hz
  subst hz
  refine ⟨_, _, _, rfl, by rw [List.length_drop, hl], ?_, fun x hx => hb x (List.mem_of_mem_drop hx)⟩
  have h3 := hs.cut (c := c) (l := i) (s := 1) (by rw [List.length_map, hl]; omega)
  rw [Nat.mul_one, ← List.map_drop, ← hB] at h3
  exact h3
theorem part_all {w : World} {ok : Nat → Prop} {A : Option Addr} {L : List Nat} {m c : Nat} (hs : SeesP w ok A (L.map B8)) (hl : L.length = m) (hb : ∀ x ∈ L, x ≤ 255) : PartsB w ok [(.slice A m c, L)] := fun z hz => by
  simp only [List.mem_cons, List.not_mem_nil, or_false] at hz
  subst hz
  exact ⟨_, _, _, rfl, hl, hs, hb⟩
theorem part_nil (w : World) (ok : Nat → Prop) : PartsB w ok [(.slice none 0 0, [])] := fun z hz => by
  simp only [List.mem_cons, List.not_mem_nil, or_false] at hz
  subst hz
  exact ⟨_, _, _, rfl, rfl, SeesP.nil _ _ _, fun x hx => by cases hx⟩
theorem PartsB.append {w : World} {ok : Nat → Prop} {P P' : List (Value × List Nat)} (h : PartsB w ok P) (h' : PartsB w ok P') : PartsB w ok (P ++ P') := fun z hz => (List.mem_append.1 hz).elim (h z) (h' z)
theorem one_cut (u m : Nat) (hm : m ≤ 100000) : ∃ i : Nat, (u : Int) % ((m : Int) + 1) = (i : Int) ∧ wrap64 (i : Int) = (i : Int) ∧ i ≤ m := by
  obtain ⟨i, h1, h2⟩ := cut_le u m
  exact ⟨i, h1, wrap64_small (by omega), h2⟩

set_option maxHeartbeats 8000000 in
set_option maxRecDepth 100000 in
theorem sumKeyed_walk (Ak : Option Addr) (nk ck : Nat) (K : List Nat) (A : Option Addr) (n c : Nat) (L : List Nat) (cut : Int) (w : World) (hG : Glob w) (hnk : nk ≤ ck) (hck : ck ≤ 9223372036854775807) (hlk : K.length = min nk 3000) (hsk : Sees w w.heap.size Ak (K.map B8)) (hbk : ∀ x ∈ K, x ≤ 255) (hAk : Ak = none → ck = 0)
    (hnc : n ≤ c) (hcm : c ≤ 9223372036854775807) (hl : L.length = min n 3000) (hs : Sees w w.heap.size A (L.map B8)) (hb : ∀ x ∈ L, x ≤ 255) :
    Calls Tryd.prog 5 #[.slice Ak nk ck, .slice A n c, .int .i64 cut] w fun e w' => e = .returned (.bool true) ∧ Below w.heap.size w w' := by
  obtain ⟨m, hm⟩ : ∃ m, m = min n 3000 := ⟨_, rfl⟩
  obtain ⟨mk, hmk⟩ : ∃ m, m = min nk 3000 := ⟨_, rfl⟩
  have hby := Lib.hid (fun w => lawBytes A n c w hnc hcm)
  have hbyk := Lib.hid (fun w => lawBytes Ak nk ck w hnk hck)
  rw [← hm] at hl hby
  rw [← hmk] at hlk hbyk
  have hm3 : m ≤ 3000 := by omega
  have hmc : m ≤ c := by omega
  have hmk3 : mk ≤ 3000 := by omega
  have hmkc : mk ≤ ck := by omega
  have HG := Lib.hid hG
  have HL := Lib.hid hl
  have HS := Lib.hid hs
  have HB := Lib.hid hb
  have HLK := Lib.hid hlk
  have HSK := Lib.hid hsk
  have HBK := Lib.hid hbk
  have HAK := Lib.hid hAk
  clear hG hl hs hb hm hmk hnc hnk hlk hsk hbk hAk
  obtain ⟨u1, hu1, hu1'⟩ := wrap_u64 cut
  have d : ((m : Int) + 1 == 0) = false := beq_eq_false_iff_ne.2 (by omega)
  have e0 : IntKind.i64.wrap ((m : Int) + 1) = (m : Int) + 1 := IntWalk.i64_in _ (by omega)
  obtain ⟨i, g1, g2, him⟩ := one_cut u1 m (by omega)
  have HG1 := Lib.hid g1
  have HG2 := Lib.hid g2
  clear hu1' g1 g2
  go_enter Tryd.func5, Tryd.ntmps5
  go_wp2_with (first
    | (go_at_call 14; first
      | ((with_reducible refine (hbyk.out _).mono ?_); rintro e w1 ⟨rfl, rfl⟩)
      | ((with_reducible refine (hby.out _).mono ?_); rintro e w1 ⟨rfl, rfl⟩))
    | (refine gate 22 rfl ?_; rw [HG1.out, HG2.out]; refine wpList_convert_sees rfl 22 9 5 (.tmp 21) rfl Tryd.underlying22 Tryd.underlying5 Tryd.underlying9 _ Ak mk ck K rfl HLK.out HSK.out ?_)
    | (refine gate 24 rfl ?_; refine wpList_convert_sees rfl 22 9 5 (.tmp 23) rfl Tryd.underlying22 Tryd.underlying5 Tryd.underlying9 _ A m c L rfl HL.out HS.out ?_)
    | (go_at_call 20; (with_reducible refine (refKeyed_ok K L HBK.out HB.out (by rw [HLK.out]; omega) (by rw [HL.out]; omega) _).mono ?_); rintro e w2 ⟨rfl, H2⟩))
  obtain ⟨i8, hi8, hz80, hz81, hz82⟩ := info_parts info8
  obtain ⟨B3, hB3⟩ : ∃ B, B = cutA A c i 1 := ⟨_, rfl⟩
  have s1 := run_cut_hi (P := Tryd.prog) 22 5 Tryd.underlying22 i8 hi8 A m c .i64 i (by omega)
  have s3 := run_cut_lo (P := Tryd.prog) 22 5 Tryd.underlying22 i8 hi8 hz81 A m c .i64 i him B3 hB3
  have HQ2 : Hid (Q w w2.drew) := H2.out.drew
  have HSUM := Lib.hid (sums_ok w2.drew (HG.out.q HQ2.out))
  have HTX : Hid (∀ V w', AggIs V 32 (arrF (hmac K L)) → Calls Tryd.prog 17 #[V] w' fun e w'' => e = .returned (.string (strB (hmac K L))) ∧ Hid (Q w' w'')) := fun V w' h => text_ok V (hmac K L) w' h (sha_len _)
  have HO1 : Hid (∀ w1, Q w w1 → Calls Tryd.prog 21 #[.slice Ak mk ck, .slice (some ⟨w1.heap.size, 0, none⟩) 1 1] (w1.alloc (.cells #[.slice A m c] 22)) fun e w' => ∃ V, e = .returned V ∧ Hid (AggIs V 32 (arrF (hmac K L)) ∧ Q w w')) := fun w1 h1 => by
    have h := keyed_new Ak mk ck K [(.slice A m c, L)] w w1 HG.out HLK.out HSK.out HBK.out HAK.out (part_all HS.out HL.out HB.out) h1 (by omega) (by simp [partsL, HL.out]; omega) (by simp)
    simp only [partsL, List.flatMap_cons, List.flatMap_nil, List.append_nil] at h
    exact h
  have HO3 : Hid (∀ w1, Q w w1 → Calls Tryd.prog 21 #[.slice Ak mk ck, .slice (some ⟨w1.heap.size, 0, none⟩) 3 3] (w1.alloc (.cells #[.slice A i c, .slice none 0 0, .slice B3 (m - i) (c - i)] 22)) fun e w' => ∃ V, e = .returned V ∧ Hid (AggIs V 32 (arrF (hmac K L)) ∧ Q w w')) := fun w1 h1 => by
    have h := keyed_new Ak mk ck K ([(.slice A i c, L.take i)] ++ [(.slice none 0 0, [])] ++ [(.slice B3 (m - i) (c - i), L.drop i)]) w w1 HG.out HLK.out HSK.out HBK.out HAK.out (((part_hi HS.out HL.out HB.out him).append (part_nil _ _)).append (part_lo HS.out HL.out HB.out hmc hB3)) h1 (by omega) (by simp [partsL, HL.out]; omega) (by simp)
    simp only [partsL, List.cons_append, List.nil_append, List.flatMap_cons, List.flatMap_nil, List.append_nil, List.take_append_drop] at h
    exact h
  generalize m - i = d3 at *
  generalize c - i = d4 at *
  generalize strB (hmac K L) = S at *
  clear hB3
  go_region_held3 (fun _ => True) (trivial) (first
    | (go_at_call 16; go_loud ((with_reducible refine HSUM.out.mono ?_); rintro e w3 ⟨rfl, H3⟩; have HQ3 : Hid (Q w w3) := HQ2.out.trans' H3.out))
    | (go_at_call 21; (with_reducible refine (HO1.out w3 HQ3.out).mono ?_); rintro e w4 ⟨V4, rfl, H4⟩)
    | (go_at_call 17; (with_reducible refine (HTX.out V4 w4 H4.out.1).mono ?_); rintro e w5 ⟨rfl, H5⟩; have HQ5 : Hid (Q w w5) := H4.out.2.trans' H5.out)
    | (go_at_call 21; (with_reducible refine (HO3.out w5 HQ5.out).mono ?_); rintro e w6 ⟨V6, rfl, H6⟩)
    | (go_at_call 17; (with_reducible refine (HTX.out V6 w6 H6.out.1).mono ?_); rintro e w7 ⟨rfl, H7⟩; have HQ7 : Hid (Q w w7) := H6.out.2.trans' H7.out))
  go_wp2_with fail
  go_ret
  exact ⟨rfl, HQ7.out⟩
theorem sumKeyed_true (Ak : Option Addr) (nk ck : Nat) (zk : List Int) (A : Option Addr) (n c : Nat) (zs : List Int) (cut : Int) (_ : (Lit.int .i64 cut).wf = true) (w : World) (wk : IsRow .u8 w Ak nk ck zk) (w0 : IsRow .u8 w A n c zs) (hG : Glob w) :
    Calls Tryd.prog 5 #[.slice Ak nk ck, .slice A n c, .int .i64 cut] w fun e w' => e = .returned (.bool true) ∧ Below w.heap.size w w' := by
  obtain ⟨h1, h2, h3, h4, h5, h6⟩ := row8 w0 (min n 3000) (by omega)
  obtain ⟨k1, k2, k3, k4, k5, k6⟩ := row8 wk (min nk 3000) (by omega)
  exact sumKeyed_walk Ak nk ck _ A n c _ cut w hG k4 k5 k1 k2 k3 k6 h4 h5 h1 h2 h3
end Go.Proofs.YtcdbffgmgfblkaaDoor
