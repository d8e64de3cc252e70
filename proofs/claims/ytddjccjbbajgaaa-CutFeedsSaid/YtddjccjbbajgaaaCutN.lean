/- The walk through the law CutMeeting. -/
import Derived.Test.YtddjccjbbajgaaaCutM
namespace Go.Proofs.Ytddjccjbbajgaaa
set_option linter.unusedVariables false
set_option linter.unusedSimpArgs false
open Go.RowKit

theorem Rl.meet (r : Rl) (one two same : List Nat) {i k : Nat} (hi : i < (r.sizes (one ++ same)).length) (hk : k < (r.sizes (two ++ same)).length)
    (h1 : one.length ≤ ((r.sizes (one ++ same)).take i).sum) (h2 : two.length ≤ ((r.sizes (two ++ same)).take k).sum) (h3 : ((r.sizes (one ++ same)).take i).sum - one.length = ((r.sizes (two ++ same)).take k).sum - two.length) :
    (r.sizes (one ++ same)).drop i = (r.sizes (two ++ same)).drop k := by
  rw [r.sizes_drop _ hi, r.sizes_drop _ hk]
  congr 1
  rw [List.drop_append, List.drop_append, List.drop_of_length_le h1, List.drop_of_length_le h2, List.nil_append, List.nil_append, h3]

set_option maxHeartbeats 16000000 in
set_option maxRecDepth 100000 in
theorem cutMeeting_walk (l m b : Int) (p n1 c1 K1 n2 c2 K2 n3 c3 K3 : Nat) (A1 A2 A3 : Option Addr) (x1 x2 x3 : List Nat) (w : World) (hp : p ≤ 18446744073709551615)
    (hs1 : SeesP w (· < w.heap.size) A1 (x1.map B8)) (hK1 : K1 = min n1 2500) (hl1 : x1.length = K1) (hx1 : ∀ y ∈ x1, y ≤ 255) (hn1 : n1 ≤ c1) (hc1 : c1 ≤ 9223372036854775807) (hA1 : A1 = none → c1 = 0)
    (hs2 : SeesP w (· < w.heap.size) A2 (x2.map B8)) (hK2 : K2 = min n2 2500) (hl2 : x2.length = K2) (hx2 : ∀ y ∈ x2, y ≤ 255) (hn2 : n2 ≤ c2) (hc2 : c2 ≤ 9223372036854775807) (hA2 : A2 = none → c2 = 0)
    (hs3 : SeesP w (· < w.heap.size) A3 (x3.map B8)) (hK3 : K3 = min n3 2500) (hl3 : x3.length = K3) (hx3 : ∀ y ∈ x3, y ≤ 255) (hn3 : n3 ≤ c3) (hc3 : c3 ≤ 9223372036854775807) (hA3 : A3 = none → c3 = 0) :
    Calls Try.prog 7 #[.agg #[.int .i64 l, .int .i64 m, .int .i64 b, .int .u64 (p : Int), .slice A1 n1 c1, .slice A2 n2 c2, .slice A3 n3 c3]] w fun e w' => e = .returned (.bool true) ∧ Q w w' := by
  obtain ⟨i0, hi, hz0, hz1, hz2⟩ := info_parts info3
  obtain ⟨i8, hi8, hz80, hz81, hz82⟩ := info_parts info8
  have hby1 := Lib.hid (fun w' => lawBytes A1 n1 c1 w' hn1 hc1)
  have hby2 := Lib.hid (fun w' => lawBytes A2 n2 c2 w' hn2 hc2)
  have hby3 := Lib.hid (fun w' => lawBytes A3 n3 c3 w' hn3 hc3)
  rw [← hK1] at hby1
  rw [← hK2] at hby2
  rw [← hK3] at hby3
  have hk1 : K1 ≤ 2500 := by omega
  have hk2 : K2 ≤ 2500 := by omega
  have hk3 : K3 ≤ 2500 := by omega
  have hto := Lib.hid (fun l m b p w' => lawTo l m b p w')
  obtain ⟨ru, hru, hrm, hta⟩ := tame_any l m b p hp
  have hta := Lib.hid hta
  have HS1 := Lib.hid hs1
  have HS2 := Lib.hid hs2
  have HS3 := Lib.hid hs3
  have HX1 : Hid (∀ z ∈ x1 ++ x3, z ≤ 255) := fun z hz => by rcases List.mem_append.1 hz with h | h; exact hx1 z h; exact hx3 z h
  have HX2 : Hid (∀ z ∈ x2 ++ x3, z ≤ 255) := fun z hz => by rcases List.mem_append.1 hz with h | h; exact hx2 z h; exact hx3 z h
  have HL1 := Lib.hid hl1
  have HL2 := Lib.hid hl2
  have HL3 := Lib.hid hl3
  have HA1 := Lib.hid hA1
  have HA2 := Lib.hid hA2
  have HA3 := Lib.hid hA3
  have HSZX : Hid (∀ (T : Option Addr) (n z : Nat) (L : List Nat) (w' : World), L.length = n → SeesP w' (· < w'.heap.size) T (L.map B8) → (∀ y ∈ L, y ≤ 255) → n ≤ 1000000 → Calls Try.prog 19 #[ruleV ru.least ru.most ru.bits ru.m, .slice T n z] w' (SzOut w' (ru.sizes L) 0)) :=
    fun T n z L w' h0 h1 h2 h3 => by subst h0; exact sizes_law ru T z L w' hru hrm h1 h2 h3
  have HMEET := Lib.hid (fun i k h1 h2 h3 h4 h5 => ru.meet x1 x2 x3 (i := i) (k := k) h1 h2 h3 h4 h5)
  have hla : (ru.sizes (x1 ++ x3)).length ≤ 5000 := by have := sizes_len ru hru (x1 ++ x3); rw [List.length_append] at this; omega
  have hlb : (ru.sizes (x2 ++ x3)).length ≤ 5000 := by have := sizes_len ru hru (x2 ++ x3); rw [List.length_append] at this; omega
  have HSA : Hid ((ru.sizes (x1 ++ x3)).sum ≤ 5000) := by show _ ≤ _; rw [ru.sizes_sum, List.length_append]; omega
  have HSB : Hid ((ru.sizes (x2 ++ x3)).sum ≤ 5000) := by show _ ≤ _; rw [ru.sizes_sum, List.length_append]; omega
  obtain ⟨s, hsz⟩ : ∃ s, s = ru.sizes (x1 ++ x3) := ⟨_, rfl⟩
  obtain ⟨t, htz⟩ : ∃ s, s = ru.sizes (x2 ++ x3) := ⟨_, rfl⟩
  rw [← hsz, ← htz] at HMEET
  rw [← hsz] at hla HSA
  rw [← htz] at hlb HSB
  rw [hl1, hl2] at HMEET
  obtain ⟨na, hna⟩ : ∃ ns, ns = s.length := ⟨_, rfl⟩
  obtain ⟨nb, hnb⟩ : ∃ ns, ns = t.length := ⟨_, rfl⟩
  rw [← hna] at hla HMEET
  rw [← hnb] at hlb HMEET
  have HNA := Lib.hid hna
  have HNB := Lib.hid hnb
  have HSZ := Lib.hid hsz
  have HTZ := Lib.hid htz
  clear hs1 hs2 hs3 hx1 hx2 hx3 hl1 hl2 hl3 hA1 hA2 hA3 hK1 hK2 hK3 hsz htz hna hnb
  unfold ruleV at hto hta HSZX
  go_enter Try.func7, Try.ntmps7
  go_wp2_with (go_at_call 18; go_loud ((with_reducible refine (hta.out _).mono ?_); rintro e w1 ⟨rfl, hq1⟩; have x4 : w1.cell? ⟨w.heap.size, 4, none⟩ = some (.slice A1 n1 c1) := (by rw [hq1.cell (by simp)]; go_simp); have x5 : w1.cell? ⟨w.heap.size, 5, none⟩ = some (.slice A2 n2 c2) := (by rw [hq1.cell (by simp)]; go_simp); have x6 : w1.cell? ⟨w.heap.size, 6, none⟩ = some (.slice A3 n3 c3) := (by rw [hq1.cell (by simp)]; go_simp); have hltb : w.heap.size < w1.heap.size := Nat.lt_of_lt_of_le (by simp) hq1.size; have qw1 : Q w w1 := ((Q.refl w).alloc _).step hq1; clear hq1))
  have HT : Hid (Tamed w1 (w1.alloc (.cells #[.int .i64 ru.least, .int .i64 ru.most, .int .i64 ru.bits, .int .u64 ru.m] 24)) ru) := ⟨RuleAt.new _ _ _ _ _ _, (Q.refl w1).alloc _, by simp⟩
  go_quiet ((go_at_call 10; (first | (with_reducible exact quiet_same (hby1.out _)) | (with_reducible exact quiet_same (hby2.out _)) | (with_reducible exact quiet_same (hby3.out _)))))
  replace HT := Lib.hid (HT.out.step ((Q.refl _).drewN nq))
  generalize (w1.alloc (.cells #[.int .i64 ru.least, .int .i64 ru.most, .int .i64 ru.bits, .int .u64 ru.m] 24)).drewN nq = wq at *
  clear x4 x5 x6
  have d0 := HT.out.1.c0
  have d1 := HT.out.1.c1
  have d2 := HT.out.1.c2
  have d3 := HT.out.1.c3
  go_wp2_with (first
    | (go_at_call 12; go_loud ((with_reducible refine (hto.out _ _ _ _ _).mono ?_); rintro e wb ⟨rfl, hq9⟩; replace HT := Lib.hid (HT.out.step hq9); have HB := Lib.hid (Bld.begin_ HT.out); have HQ9 := Lib.hid hq9; clear d0 d1 d2 d3 hq9))
    | (at_builtin; go_loud (refine wpList_append_row rfl (.tmp 30) (.tmp 31) 25 rfl wb.heap.size 5 i8 _ 1 Try.underlying25 hi8 hz80 hz81 hz82 rfl _ 0 [] rfl (HB.out.made _ rfl).own (· < w.heap.size) A1 K1 c1 (x1.map B8) rfl HA1.out (by rw [List.length_map, HL1.out]) (HS1.out.below (qw1.step (HB.out.made _ rfl).t.2.1)) (B8_one _) (by unfold maxLen; omega) (by omega) (HB.out.made _ rfl).q.size ?_; intro v1 w3 hown1 hgr1; rw [show 0 + K1 = ([] : List Nat).length + x1.length by rw [HL1.out]; simp] at hown1; replace HB := Lib.hid ((HB.out.made _ rfl).grew hown1 hgr1); rw [List.nil_append] at HB; clear hown1 hgr1))
    | (at_builtin; go_loud (refine wpList_append_row rfl (.tmp 41) (.tmp 42) 25 rfl wb.heap.size 5 i8 _ 1 Try.underlying25 hi8 hz80 hz81 hz82 rfl _ 0 [] rfl (HB.out.made _ rfl).own (· < w.heap.size) A2 K2 c2 (x2.map B8) rfl HA2.out (by rw [List.length_map, HL2.out]) (HS2.out.below (qw1.step (HB.out.made _ rfl).t.2.1)) (B8_one _) (by unfold maxLen; omega) (by omega) (HB.out.made _ rfl).q.size ?_; intro v1 w3 hown1 hgr1; rw [show 0 + K2 = ([] : List Nat).length + x2.length by rw [HL2.out]; simp] at hown1; replace HB := Lib.hid ((HB.out.made _ rfl).grew hown1 hgr1); rw [List.nil_append] at HB; clear hown1 hgr1))
    | (at_builtin; go_loud (refine wpList_append_row rfl (.tmp 32) (.tmp 33) 25 rfl wb.heap.size 5 i8 _ 1 Try.underlying25 hi8 hz80 hz81 hz82 rfl _ _ _ rfl HB.out.own (· < w.heap.size) A3 K3 c3 (x3.map B8) rfl HA3.out (by rw [List.length_map, HL3.out]) (HS3.out.below (qw1.step HB.out.t.2.1)) (B8_one _) (by rw [HL1.out]; unfold maxLen; omega) (by rw [HL1.out]; omega) HB.out.q.size ?_; intro v2 w4 hown2 hgr2; replace HB := Lib.hid (HB.out.grew (by rw [HL3.out]; exact hown2) hgr2); obtain ⟨T2, z2, rfl⟩ := own_form hown2; have HB1 := Lib.hid ((sees_own HB.out.own).more (fun b hb => hb.2) : SeesP w4 (· < w4.heap.size) T2 ((x1 ++ x3).map B8)); clear hown2 hgr2))
    | (at_builtin; go_loud (refine wpList_append_row rfl (.tmp 43) (.tmp 44) 25 rfl wb.heap.size 5 i8 _ 1 Try.underlying25 hi8 hz80 hz81 hz82 rfl _ _ _ rfl HB.out.own (· < w.heap.size) A3 K3 c3 (x3.map B8) rfl HA3.out (by rw [List.length_map, HL3.out]) (HS3.out.below (qw1.step HB.out.t.2.1)) (B8_one _) (by rw [HL2.out]; unfold maxLen; omega) (by rw [HL2.out]; omega) HB.out.q.size ?_; intro v2 w4 hown2 hgr2; replace HB := Lib.hid (HB.out.grew (by rw [HL3.out]; exact hown2) hgr2); obtain ⟨T2, z2, rfl⟩ := own_form hown2; have HB1 := Lib.hid ((sees_own HB.out.own).more (fun b hb => hb.2) : SeesP w4 (· < w4.heap.size) T2 ((x2 ++ x3).map B8)); clear hown2 hgr2))
    | (go_at_call 19; first
        | ((with_reducible refine (HSZX.out T2 _ z2 (x1 ++ x3) _ (by rw [List.length_append, HL3.out]) HB1.out HX1.out (by rw [HL1.out]; omega)).mono ?_); rintro e wc ⟨B1, y1, rfl, hs1, hqa, hy1, _⟩; rw [← HSZ.out] at hs1 hy1 ⊢; rw [← HNA.out] at hy1 ⊢; replace HT := Lib.hid (HB.out.step hqa).t; have d0 := HT.out.1.c0; have d1 := HT.out.1.c1; have d2 := HT.out.1.c2; have d3 := HT.out.1.c3; have HC1 := Lib.hid (hs1.more (fun g h => h.2) : SeesP wc (· < wc.heap.size) B1 (s.map I64)); clear hs1 hqa HB HB1 HQ9)
        | ((with_reducible refine (HSZX.out T2 _ z2 (x2 ++ x3) _ (by rw [List.length_append, HL3.out]) HB1.out HX2.out (by rw [HL2.out]; omega)).mono ?_); rintro e wd ⟨B2, y2, rfl, hs2, hqa, hy2, _⟩; rw [← HTZ.out] at hs2 hy2 ⊢; rw [← HNB.out] at hy2 ⊢; replace HT := Lib.hid (HB.out.step hqa).t; have HC2 := Lib.hid (hs2.more (fun g h => h.2) : SeesP wd (· < wd.heap.size) B2 (t.map I64)); have HCd := Lib.hid (HC1.out.belowP (fun _ h => h) ((HQ9.out.step HB.out.q).step hqa)); have hcd : wc.heap.size ≤ wd.heap.size := ((HQ9.out.step HB.out.q).step hqa).size; clear hs2 hqa HB HB1 HQ9 HC1))
    | (go_at_call 15; (with_reducible refine (lawCuts _).mono ?_); rintro e w5 ⟨rfl, hq5⟩; have HT5 := Lib.hid (HT.out.step hq5); have HE1 := Lib.hid (HCd.out.belowP (fun _ h => Nat.lt_of_lt_of_le h hcd) hq5); have HE2 := Lib.hid (HC2.out.belowP (fun _ h => h) hq5); have hlt5 : wd.heap.size ≤ w5.heap.size := hq5.size; clear hq5))
  clear HT HCd HC2
  have H0 : Hid (0 = (s.take 0).sum ∧ 0 = (t.take 0).sum) := ⟨by simp, by simp⟩
  go_loopw [11, 12, 13, 14] (fun i k a c wr => ∃ i' k' a' c' : Nat, i' ≤ na ∧ k' ≤ nb ∧ i = .int .i64 i' ∧ k = .int .i64 k' ∧ a = .int .i64 a' ∧ c = .int .i64 c' ∧ Hid (a' = (s.take i').sum ∧ c' = (t.take k').sum) ∧ wr = w5) (fun i k _ _ _ => na + nb - (intOf i).toNat - (intOf k).toNat)
  case atStart => exact ⟨0, 0, 0, 0, by omega, by omega, rfl, rfl, rfl, rfl, H0.out, rfl⟩
  case round =>
    obtain ⟨i, k, a, d, hi1, hk1', rfl, rfl, rfl, rfl, HY, rfl⟩ := hrel
    have ha1 : a ≤ 5000 := by rw [HY.out.1]; have := sum_take_le s i; have := HSA.out; omega
    have hd1 : d ≤ 5000 := by rw [HY.out.2]; have := sum_take_le t k; have := HSB.out; omega
    by_cases hlt : i < na ∧ k < nb
    · obtain ⟨hia, hkb⟩ := hlt
      have hia' : i < s.length := by rw [← HNA.out]; exact hia
      have hkb' : k < t.length := by rw [← HNB.out]; exact hkb
      obtain ⟨ba, oa, rfl, hba, hca⟩ := HE1.out.at_ (k := i) (u := I64 s[i]) (by simp [hia'])
      obtain ⟨bb, ob, rfl, hbb, hcb⟩ := HE2.out.at_ (k := k) (u := I64 t[k]) (by simp [hkb'])
      have HYa := Lib.hid (sum_take_succ s i hia')
      have HYd := Lib.hid (sum_take_succ t k hkb')
      rw [← HY.out.1] at HYa
      rw [← HY.out.2] at HYd
      have hva : s[i] ≤ 5000 := by have h := HYa.out; have h2 := sum_take_le s (i + 1); have := HSA.out; omega
      have hvd : t[k] ≤ 5000 := by have h := HYd.out; have h2 := sum_take_le t (k + 1); have := HSB.out; omega
      generalize s[i] = va at *
      generalize t[k] = vd at *
      unfold I64 at hca hcb
      by_cases hall : K1 ≤ a ∧ K2 ≤ d ∧ a - K1 = d - K2
      · obtain ⟨e1, e2, e3⟩ := hall
        have he : ((a : Int) - (K1 : Int) == (d : Int) - (K2 : Int)) = true := beq_iff_eq.2 (by omega)
        have hdr : Hid (s.drop i = t.drop k) := HMEET.out i k hia hkb (by rw [← HY.out.1]; exact e1) (by rw [← HY.out.2]; exact e2) (by rw [← HY.out.1, ← HY.out.2]; exact e3)
        have hc1' : ¬ y1 = i := by omega
        have hc2' : ¬ y2 = k := by omega
        have f1 : (0 : Int) ≤ (i : Int) := Int.natCast_nonneg _
        have f2 : (0 : Int) ≤ (k : Int) := Int.natCast_nonneg _
        have f3 : (i : Int) ≤ (na : Int) := by omega
        have f4 : (k : Int) ≤ (nb : Int) := by omega
        have f5 : i ≤ na := by omega
        have f6 : k ≤ nb := by omega
        have HI : Hid (Calls Try.prog 21 #[.slice (some ⟨ba, oa + i, none⟩) (na - i) (y1 - i), .slice (some ⟨bb, ob + k, none⟩) (nb - k) (y2 - k)] wr.drew fun e w' => e = .returned (.bool true) ∧ Q wr w') := by
          have g1 := HE1.out.cut (c := y1) (l := i) (s := 1) (by rw [List.length_map, ← HNA.out]; omega)
          have g2 := HE2.out.cut (c := y2) (l := k) (s := 1) (by rw [List.length_map, ← HNB.out]; omega)
          rw [show cutA (some ⟨ba, oa, none⟩) y1 i 1 = some ⟨ba, oa + i, none⟩ by unfold cutA; rw [if_neg (by omega), Option.map_some, Nat.mul_one, add_addr], Nat.mul_one, ← List.map_drop] at g1
          rw [show cutA (some ⟨bb, ob, none⟩) y2 k 1 = some ⟨bb, ob + k, none⟩ by unfold cutA; rw [if_neg (by omega), Option.map_some, Nat.mul_one, add_addr], Nat.mul_one, ← List.map_drop] at g2
          have h := ints_nat _ _ (y1 - i) (y2 - k) _ _ (s.drop i) (t.drop k) wr.drew g1 g2 (by rw [List.length_drop, ← HNA.out]; omega) (by rw [List.length_drop, ← HNB.out]; omega)
          rw [decide_eq_true hdr.out, List.length_drop, List.length_drop, ← HNA.out, ← HNB.out] at h
          exact h.mono fun e w' ⟨h1, h2⟩ => ⟨h1, (Q.refl wr).drew.step h2⟩
        clear hca hcb HYa HYd hdr
        go_wp2_with fail
        go_region_held3 (fun _ => True) (trivial) ((go_at_call 21; go_loud ((with_reducible refine HI.out.mono ?_); rintro e w6 ⟨rfl, hq6⟩)))
        go_wp2
        go_ret
        exact ⟨rfl, (qw1.step HT5.out.2.1).step hq6⟩
      · have hw : (¬ K1 ≤ a ∧ (a : Int) - K1 ≤ (d : Int) - K2) ∨ (¬ K1 ≤ a ∧ ¬ (a : Int) - K1 ≤ (d : Int) - K2) ∨ (K1 ≤ a ∧ ¬ K2 ≤ d) ∨
            (K1 ≤ a ∧ K2 ≤ d ∧ ((a : Int) - (K1 : Int) == (d : Int) - (K2 : Int)) = false ∧ (a : Int) - K1 ≤ (d : Int) - K2) ∨ (K1 ≤ a ∧ K2 ≤ d ∧ ((a : Int) - (K1 : Int) == (d : Int) - (K2 : Int)) = false ∧ ¬ (a : Int) - K1 ≤ (d : Int) - K2) := by
          rw [beq_eq_false_iff_ne]
          omega
        clear hall
        rcases hw with ⟨h1, h2⟩ | ⟨h1, h2⟩ | ⟨h1, h2⟩ | ⟨h1, h2, h3, h4⟩ | ⟨h1, h2, h3, h4⟩
        · go_wp2_with fail
          go_roundw
          case rel => exact ⟨i + 1, k, a + va, d, by omega, by omega, by go_num, rfl, by go_num, rfl, ⟨HYa.out.symm, HY.out.2⟩, True.intro⟩
          case measure => simp [intOf]; omega
        · go_wp2_with fail
          go_roundw
          case rel => exact ⟨i, k + 1, a, d + vd, by omega, by omega, rfl, by go_num, rfl, by go_num, ⟨HY.out.1, HYd.out.symm⟩, True.intro⟩
          case measure => simp [intOf]; omega
        · go_wp2_with fail
          go_roundw
          case rel => exact ⟨i, k + 1, a, d + vd, by omega, by omega, rfl, by go_num, rfl, by go_num, ⟨HY.out.1, HYd.out.symm⟩, True.intro⟩
          case measure => simp [intOf]; omega
        · go_wp2_with fail
          go_roundw
          case rel => exact ⟨i + 1, k, a + va, d, by omega, by omega, by go_num, rfl, by go_num, rfl, ⟨HYa.out.symm, HY.out.2⟩, True.intro⟩
          case measure => simp [intOf]; omega
        · go_wp2_with fail
          go_roundw
          case rel => exact ⟨i, k + 1, a, d + vd, by omega, by omega, rfl, by go_num, rfl, by go_num, ⟨HY.out.1, HYd.out.symm⟩, True.intro⟩
          case measure => simp [intOf]; omega
    · by_cases hi2 : i < na
      · have hk2 : ¬ k < nb := fun h => hlt ⟨hi2, h⟩
        clear hlt
        go_wp2_with fail
        go_ret
        exact ⟨rfl, qw1.step HT5.out.2.1⟩
      · clear hlt
        go_wp2_with fail
        go_ret
        exact ⟨rfl, qw1.step HT5.out.2.1⟩

theorem cutMeeting_true (l : Int) (wl : (Lit.int .i64 l).wf = true) (m : Int) (wm : (Lit.int .i64 m).wf = true) (b : Int) (wb : (Lit.int .i64 b).wf = true) (a : Int) (wa : (Lit.int .u64 a).wf = true) (A1 : Option Addr) (n1 c1 : Nat) (z1 : List Int) (A2 : Option Addr) (n2 c2 : Nat) (z2 : List Int) (A3 : Option Addr) (n3 c3 : Nat) (z3 : List Int) (w : World) (w1 : IsRow .u8 w A1 n1 c1 z1) (w2 : IsRow .u8 w A2 n2 c2 z2) (w3 : IsRow .u8 w A3 n3 c3 z3) :
    Calls Try.prog 7 #[.agg #[.int .i64 l, .int .i64 m, .int .i64 b, .int .u64 a, .slice A1 n1 c1, .slice A2 n2 c2, .slice A3 n3 c3]] w fun e w' => e = .returned (.bool true) ∧ Below w.heap.size w w' := by
  obtain ⟨ha, ha'⟩ := wf64 wa
  obtain ⟨p, rfl⟩ := Int.eq_ofNat_of_zero_le ha
  obtain ⟨h1, h2, h3, h4, h5, h6⟩ := row8 w1 (min n1 2500) (by omega)
  obtain ⟨g1, g2, g3, g4, g5, g6⟩ := row8 w2 (min n2 2500) (by omega)
  obtain ⟨k1, k2, k3, k4, k5, k6⟩ := row8 w3 (min n3 2500) (by omega)
  exact cutMeeting_walk l m b p n1 c1 _ n2 c2 _ n3 c3 _ A1 A2 A3 _ _ _ w (by omega) h2 rfl h1 h3 h4 h5 h6 g2 rfl g1 g3 g4 g5 g6 k2 rfl k1 k3 k4 k5 k6
end Go.Proofs.Ytddjccjbbajgaaa
