/- GlyphBack. -/
import Derived.Test.YtbbpdcnkiljjgaaGlyK
import Derived.Test.YtbbpdcnkiljjgaaGlyX
import Derived.Test.YtbbpdcnkiljjgaaRowS
import Derived.Deep.DeepCutAuto
import Derived.Deep.RegionHeld3
namespace Go.Proofs.Ytbbpdcnkiljjgaa
set_option linter.unusedVariables false
set_option linter.unusedSimpArgs false
open Go.RowKit

theorem infoT : (Try.prog.info? 33).map (fun i => (i.zero, i.size, i.bytes)) = some (some (.agg #[.int .i64 0, .int .i64 0, .string ⟨#[]⟩]), 3, 32) := by kernel_rfl
/-- The things that were written so far. -/
structure Built (w wr : World) (kk g : Nat) (had : List Thing) (v vo : Value) : Prop where
  out : OutX w wr g (0, [72, 89, kk] ++ had.flatMap encT) (1 + had.length) vo
  row : wr.ownsRow w.heap.size 33 3 v had.length (had.flatMap thingC)
  far : ∀ b, v.ownBlock = some b → ¬ OutS g vo b
  good : ∀ t ∈ had, Good t
  byte : kk ≤ 255
theorem Built.next {w wr w6 wc w7 : World} {kk g : Nat} {had : List Thing} {t : Thing} {v v5 vo vo' : Value} {s : Nat × List Nat} (h : Built w wr kk g had v vo) (hg : Good t)
    (row : w6.ownsRow w.heap.size 33 3 v5 (had.length + 1) (had.flatMap thingC ++ thingC t)) (far : ∀ b, v5.ownBlock = some b → ¬ OutS g vo b) (hq : Q w6 wc)
    (h7 : OutX w w7 g s (1 + had.length + 1) vo' ∧ Only (OutS g vo) wc w7 ∧ NewOr wc vo vo') (hs : s = (0, [72, 89, kk] ++ had.flatMap encT ++ encT t)) : Built w w7 kk g (had ++ [t]) v5 vo' := by
  obtain ⟨h8, h9, h10⟩ := h7
  subst hs
  have hrow := own_q row hq
  refine ⟨?_, ?_, fun b hb hO => ?_, fun u hu => ?_, h.byte⟩
  · rw [List.flatMap_append, List.flatMap_singleton, ← List.append_assoc, List.length_append, List.length_singleton]; exact h8
  · rw [List.flatMap_append, List.flatMap_singleton, List.length_append, List.length_singleton]
    exact own_only hrow h9 far
  · rcases hO with rfl | hO
    · exact far _ hb (.inl rfl)
    · rcases h10 b hO with h11 | h11
      · exact far b hb (.inr h11)
      · have := own_lt hrow b hb; omega
  · rcases List.mem_append.1 hu with h1 | h1
    · exact h.good u h1
    · rw [List.mem_singleton] at h1; subst h1; exact hg

theorem Built.append {w wr wA w5 : World} {kk g : Nat} {had : List Thing} {v v5 vo : Value} (h : Built w wr kk g had v vo) (hq : Q wr wA) (hg : Grew wA w5 v v5) :
    OutX w w5 g (0, [72, 89, kk] ++ had.flatMap encT) (1 + had.length) vo ∧ (∀ b, v5.ownBlock = some b → ¬ OutS g vo b) ∧ ∀ p : Addr, wr.heap.size ≤ p.block → p.block < wA.heap.size → w5.cell? p = wA.cell? p := by
  have hown := own_q h.row hq
  refine ⟨(h.out.step hq).only (hg.only (fun k => v.ownBlock = some k) (fun k hk => hk)) (fun k hk hv => h.far k hv hk) (fun k hk => own_block h.row k hk), fun b hb hO => ?_, fun p h1 h2 => hg.cell h2 (fun hv => by have := own_lt h.row _ hv; omega)⟩
  rcases hg.own with h1 | ⟨g', h1, h2⟩
  · exact h.far b (h1 ▸ hb) hO
  · rw [hb] at h1
    injection h1 with h1
    have := h.out.has.lt b hO
    have := hq.size
    omega

theorem bytesX {w0 w : World} {g c : Nat} {L : List Nat} {v : Value} (h : Hid (OutX w0 w g (0, L) c v)) (hc : c ≤ 100000) : Calls Try.prog 9 #[.pointer (some ⟨g, 0, none⟩)] w fun e w' => ∃ A cp n, e = .returned (.tuple #[.slice A n cp, .int .i64 0]) ∧ Hid (L.length = n ∧ w'.ownsRow w.heap.size 5 1 (.slice A n cp) n (L.map B8) ∧ Q w w') := by
  obtain ⟨h1, h2, h3⟩ := h.out
  refine (bytes_ok _ _ _ _ _ w h1 (by simp only at h3 ⊢; omega)).mono ?_
  rintro e w' ⟨v', rfl, h4, h5⟩
  rw [if_pos rfl] at h4
  obtain ⟨A, cp, rfl⟩ := own_form h4
  exact ⟨A, cp, _, rfl, rfl, h4, h5⟩
/-- Open of what Bytes gave, cut or not. -/
theorem open_row {wa w2 w3 : World} {L : List Nat} {A : Option Addr} {n cp : Nat} (h : Hid (L.length = n ∧ w2.ownsRow wa.heap.size 5 1 (.slice A n cp) n (L.map B8) ∧ Q wa w2)) (hq : Q w2 w3) (hl : L.length ≤ 20000) (hb : ∀ x ∈ L, x ≤ 255) (j : Nat) (hj : j ≤ 255) (m : Nat) (hm : m ≤ n) :
    Calls Try.prog 20 #[.int .u8 (j : Int), .slice A m cp] w3 (InNew w3 (openRd j (L.take m))) := by
  obtain ⟨h1, h2, h3⟩ := h.out
  have h4 := own_q h2 hq
  exact openZ w3 j j rfl hj A cp m (L.take m) _ (by rw [List.length_take]; omega) (by rw [List.map_take]; exact (sees_own h4).take m) (fun b (hb : _ ∧ _) => hb.2) (fun x hx => hb x (List.mem_of_mem_take hx)) (by omega) (by have := (own_cap h4).1; omega) (own_max h4) (own_nil h4)
theorem open_full {wa w2 w3 : World} {L : List Nat} {A : Option Addr} {n cp : Nat} (h : Hid (L.length = n ∧ w2.ownsRow wa.heap.size 5 1 (.slice A n cp) n (L.map B8) ∧ Q wa w2)) (hq : Q w2 w3) (hl : L.length ≤ 20000) (hb : ∀ x ∈ L, x ≤ 255) (j : Nat) (hj : j ≤ 255) :
    Calls Try.prog 20 #[.int .u8 (j : Int), .slice A n cp] w3 (InNew w3 (openRd j L)) := by
  have h1 := open_row h hq hl hb j hj n (Nat.le_refl _)
  rw [List.take_of_length_le (by rw [h.out.1]; exact Nat.le_refl _)] at h1
  exact h1
theorem modlen (a : Int) (n : Nat) (h0 : 0 < n) (h1 : n ≤ 1000000) : ∃ x : Nat, wrap64 ((IntKind.u64.wrap a).tmod (n : Int)) = (x : Int) ∧ x < n := by
  obtain ⟨u, hu, _⟩ := wrap_u64 a
  rw [hu, Int.tmod_eq_emod_of_nonneg (by omega)]
  refine ⟨u % n, ?_, Nat.mod_lt _ h0⟩
  have h2 : (u : Int) % (n : Int) = ((u % n : Nat) : Int) := by omega
  have h3 := Nat.mod_lt u h0
  rw [h2]
  generalize u % n = y at h3 ⊢
  unfold wrap64; omega
theorem encs_len : ∀ (had : List Thing), (∀ t ∈ had, Good t) → (had.flatMap encT).length ≤ 309 * had.length
  | [], _ => by simp
  | t :: had, h => by
    have h1 := encs_len had (fun u hu => h u (List.mem_cons_of_mem _ hu))
    have h2 := encT_len (h t (List.mem_cons_self ..))
    rw [List.flatMap_cons, List.length_append, List.length_cons]; omega

set_option maxHeartbeats 16000000 in
set_option maxRecDepth 100000 in
theorem back_ok (kk : Nat) (hkk : kk ≤ 255) (A : Option Addr) (n c : Nat) (ts : List Thing) (cut : Int) (w : World) (hn : n ≤ 9223372036854775807) (hl : n ≤ ts.length) (hs : SeesP w (· < w.heap.size) A (ts.flatMap thingC)) (hm : ∀ t ∈ ts, t.2.2.size ≤ 9223372036854775807) :
    Calls Try.prog 7 #[.int .u8 (kk : Int), .slice A n c, .int .i64 cut] w fun e w' => e = .returned (.bool true) ∧ Hid (Q w w') := by
  obtain ⟨iT, hiT, hzT0, hzT1, hzT2⟩ := info_parts infoT
  have hb := fun w => Lib.hid (beginZ w kk kk rfl hkk)
  have hgl := fun w => Lib.hid (glyphs_ok w)
  have HL := Lib.hid hl
  have HS := Lib.hid hs
  have HM := Lib.hid hm
  clear hl hs hm
  go_enter Try.func7, Try.ntmps7
  go_wp2_with (go_at_call 11; go_loud ((with_reducible refine (hb _).out.mono ?_); rintro e w2 ⟨g, rfl, H2⟩))
  obtain ⟨vo0, hx0⟩ := H2.out.x
  have H0 : Hid (Built w w2 kk g [] (.slice none 0 0) vo0) := Built.mk hx0 (World.ownsRow_nil _ _ _ _) (fun b hb => by simp [Value.ownBlock] at hb) (fun t ht => by simp at ht) hkk
  clear hx0
  go_loopw [8, 9] (fun h i wr => ∃ (k : Nat) (had : List Thing) (v vo : Value), k ≤ n ∧ Hid (k ≤ 40) ∧ v = h ∧ i = .int .i64 k ∧ Hid (had.length = k) ∧ Hid (Built w wr kk g had v vo)) (fun _ i _ => n - (intOf i).toNat)
  case atStart => exact ⟨0, [], _, vo0, by omega, (show 0 ≤ 40 by omega), rfl, rfl, rfl, H0.out⟩
  case round =>
    obtain ⟨k, had, v, vo, hk, HK40, rfl, rfl, HN, HW⟩ := hrel
    by_cases hlt : k < n ∧ k < 40
    · obtain ⟨hkn, hk40⟩ := hlt
      have hkl : k < ts.length := Nat.lt_of_lt_of_le hkn HL.out
      have hat := fun j (hj : j < 3) => flat_at (f := thingC) (size := 3) ts (fun _ _ => rfl) k j hkl hj
      have hsee := HS.out.below HW.out.out.q
      obtain ⟨bb, oo, rfl, hbb, hc0⟩ := hsee.at_ (k := k * 3 + 0) (hat 0 (by omega))
      obtain ⟨_, _, e', _, hc1⟩ := hsee.at_ (k := k * 3 + 1) (hat 1 (by omega))
      injection e' with e'; injection e' with e1 e2 _; subst e1 e2
      obtain ⟨_, _, e', _, hc2⟩ := hsee.at_ (k := k * 3 + 2) (hat 2 (by omega))
      injection e' with e'; injection e' with e1 e2 _; subst e1 e2
      have htm := HM.out ts[k] (List.getElem_mem hkl)
      clear hsee hat hbb
      generalize ts[k] = tt at *
      obtain ⟨t0, t1, t2⟩ := tt
      have hd0 : wr.cell? ⟨bb, oo + k * 3, none⟩ = some (.int .i64 t0) := hc0
      have hd1 : wr.cell? ⟨bb, oo + k * 3 + 1, none⟩ = some (.int .i64 t1) := hc1
      have hd2 : wr.cell? ⟨bb, oo + k * 3 + 2, none⟩ = some (.string t2) := hc2
      have htm : t2.size ≤ 9223372036854775807 := htm
      clear hc0 hc1 hc2
      obtain ⟨x, hx, hx2⟩ := mod62 t1
      obtain ⟨t, ht⟩ : ∃ t, t2.extract 0 (min (t2.size : Int) 300).toNat = t := ⟨_, rfl⟩
      have hts : t.size ≤ 300 := by rw [← ht, ByteArray.size_extract]; omega
      have HGD : Hid (Good (t0, (x : Int), t)) := ⟨by show (0 : Int) ≤ x; omega, by show (x : Int) < _; omega, hts⟩
      have HX2 := Lib.hid hx2
      clear hx2
      have HQA : Hid (Q wr (wr.alloc (.cells #[.int .i64 t0, .int .i64 (x : Int), .string t] 33))) := (Q.refl wr).alloc _
      have HOWN := Lib.hid (own_q HW.out.row HQA.out)
      have HSZ : Hid (wr.heap.size + 1 = (wr.alloc (.cells #[.int .i64 t0, .int .i64 (x : Int), .string t] 33)).heap.size) := by show _ = _; rw [alloc_size]
      have HTN := Lib.hid (thing_new (Q.refl (wr.alloc (.cells #[.int .i64 t0, .int .i64 (x : Int), .string t] 33))))
      have HONE : Hid (∀ u ∈ thingC (t0, (x : Int), t), u.oneCell' = true) := by
        intro u hu
        simp only [thingC, List.mem_cons, List.not_mem_nil, or_false] at hu
        rcases hu with rfl | rfl | rfl <;> rfl
      have HBS : Hid (w.heap.size ≤ (wr.alloc (.cells #[.int .i64 t0, .int .i64 (x : Int), .string t] 33)).heap.size) := by show _ ≤ _; rw [alloc_size]; have := HW.out.out.q.size; omega
      have hhl : had.length < 100 := by have := HN.out; omega
      have HMX : Hid (had.length + 1 ≤ maxLen) := by show _ ≤ _; unfold maxLen; omega
      have HMY : Hid ((had.length + 1) * 32 ≤ 140737488355328) := by show _ ≤ _; omega
      have HTS : Hid (t.size ≤ 9223372036854775807) := by show _ ≤ _; omega
      have HTS2 : Hid (t.size ≤ 131081) := by show _ ≤ _; omega
      have HC1 : Hid (1 + had.length ≤ 100000) := by show _ ≤ _; omega
      have HN1 : Hid ((had ++ [(t0, (x : Int), t)]).length = k + 1) := by show _ = _; rw [List.length_append, HN.out]; rfl
      have HK1 : Hid (k + 1 ≤ 40) := by show _ ≤ _; omega
      obtain ⟨kd, hkd0⟩ : ∃ kd, kd = kindOf t0 := ⟨_, rfl⟩
      have hkd4 : kd < 4 := by rw [hkd0]; unfold kindOf; omega
      have hkd := fun w => kind_ok t0 (x : Int) t w
      rw [← hkd0] at hkd
      have HKK := Lib.hid hkd0
      clear hkd0
      by_cases h0 : kd = 0
      · subst h0
        have HKD : Hid (∀ w, Calls Try.prog 13 #[.agg #[.int .i64 t0, .int .i64 (x : Int), .string t]] w fun e w' => e = .returned (.int .i64 0) ∧ Q w w') := hkd
        clear hkd hkd4
        go_wp2_with (first
          | (at_builtin; go_loud (refine wpList_append_agg rfl (.tmp 48) (.tmp 50) 22 rfl w.heap.size 33 iT _ 3 32 Try.underlying22 hiT hzT0 hzT1 hzT2 rfl (Nat.succ_pos 2) v had.length _ rfl HOWN.out (thingC (t0, (x : Int), t)) _ _ HSZ.out rfl rfl HONE.out HMX.out HMY.out HBS.out ?_; intro v5 w5 hown5 hgr5 hne5; obtain ⟨hb1, hb2, hb3⟩ := HW.out.append HQA.out hgr5; obtain ⟨g5, c5, rfl⟩ := Go.Joins.ownsRow_form hown5 (Nat.succ_pos _); have x0 := (hb3 ⟨wr.heap.size, 0, none⟩ (Nat.le_refl _) HTN.out.1).trans HTN.out.2.1; have x1 := (hb3 ⟨wr.heap.size, 1, none⟩ (Nat.le_refl _) HTN.out.1).trans HTN.out.2.2.1; have x2 := (hb3 ⟨wr.heap.size, 2, none⟩ (Nat.le_refl _) HTN.out.1).trans HTN.out.2.2.2; have HB5 := Lib.hid (And.intro hown5 (And.intro hb1 (And.intro hb2 (And.intro (Nat.lt_of_lt_of_le HTN.out.1 hgr5.size) trivial)))); clear hown5 hgr5 hne5 hb1 hb2 hb3))
          | (go_at_call 13; go_loud ((with_reducible refine (HKD.out _).mono ?_); rintro e w6 ⟨rfl, h6⟩; have y1 := (Below.cell (p := ⟨wr.heap.size, 1, none⟩) h6 HB5.out.2.2.2.1).trans x1; have y2 := (Below.cell (p := ⟨wr.heap.size, 2, none⟩) h6 HB5.out.2.2.2.1).trans x2; have HO6 := Lib.hid (HB5.out.2.1.step h6); have HR6 := Lib.hid (own_q HB5.out.1 h6); clear h6))
          | (go_at_call 14; go_loud ((with_reducible refine (numX HO6 (x : Int) HC1.out).mono ?_); rintro e w7 ⟨vo', rfl, H7⟩)))
        go_roundw
        case rel => exact ⟨k + 1, had ++ [(t0, (x : Int), t)], _, vo', by omega, HK1, rfl, by go_num, HN1, HW.out.next HGD.out HR6.out HB5.out.2.2.1 ((Q.refl _).alloc _) H7.out (num_enc HKK.out HGD.out _)⟩
        case measure => simp [intOf]; omega
      · by_cases h1 : kd = 1
        · subst h1
          have HKD : Hid (∀ w, Calls Try.prog 13 #[.agg #[.int .i64 t0, .int .i64 (x : Int), .string t]] w fun e w' => e = .returned (.int .i64 1) ∧ Q w w') := hkd
          clear hkd hkd4
          go_wp2_with (first
            | (at_builtin; go_loud (refine wpList_append_agg rfl (.tmp 48) (.tmp 50) 22 rfl w.heap.size 33 iT _ 3 32 Try.underlying22 hiT hzT0 hzT1 hzT2 rfl (Nat.succ_pos 2) v had.length _ rfl HOWN.out (thingC (t0, (x : Int), t)) _ _ HSZ.out rfl rfl HONE.out HMX.out HMY.out HBS.out ?_; intro v5 w5 hown5 hgr5 hne5; obtain ⟨hb1, hb2, hb3⟩ := HW.out.append HQA.out hgr5; obtain ⟨g5, c5, rfl⟩ := Go.Joins.ownsRow_form hown5 (Nat.succ_pos _); have x0 := (hb3 ⟨wr.heap.size, 0, none⟩ (Nat.le_refl _) HTN.out.1).trans HTN.out.2.1; have x1 := (hb3 ⟨wr.heap.size, 1, none⟩ (Nat.le_refl _) HTN.out.1).trans HTN.out.2.2.1; have x2 := (hb3 ⟨wr.heap.size, 2, none⟩ (Nat.le_refl _) HTN.out.1).trans HTN.out.2.2.2; have HB5 := Lib.hid (And.intro hown5 (And.intro hb1 (And.intro hb2 (And.intro (Nat.lt_of_lt_of_le HTN.out.1 hgr5.size) trivial)))); clear hown5 hgr5 hne5 hb1 hb2 hb3))
            | (go_at_call 13; go_loud ((with_reducible refine (HKD.out _).mono ?_); rintro e w6 ⟨rfl, h6⟩; have y1 := (Below.cell (p := ⟨wr.heap.size, 1, none⟩) h6 HB5.out.2.2.2.1).trans x1; have y2 := (Below.cell (p := ⟨wr.heap.size, 2, none⟩) h6 HB5.out.2.2.2.1).trans x2; have HO6 := Lib.hid (HB5.out.2.1.step h6); have HR6 := Lib.hid (own_q HB5.out.1 h6); clear h6))
            | (go_at_call 16; go_loud ((with_reducible refine (textX HO6 t HC1.out HTS.out).mono ?_); rintro e w7 ⟨vo', rfl, H7⟩)))
          go_roundw
          case rel => exact ⟨k + 1, had ++ [(t0, (x : Int), t)], _, vo', by omega, HK1, rfl, by go_num, HN1, HW.out.next HGD.out HR6.out HB5.out.2.2.1 ((Q.refl _).alloc _) H7.out (text_enc HKK.out HGD.out _)⟩
          case measure => simp [intOf]; omega
        · by_cases h2 : kd = 2
          · subst h2
            have HKD : Hid (∀ w, Calls Try.prog 13 #[.agg #[.int .i64 t0, .int .i64 (x : Int), .string t]] w fun e w' => e = .returned (.int .i64 2) ∧ Q w w') := hkd
            clear hkd hkd4
            have hyy : ((x : Int) % 2 == 1) = ((x : Int).tmod 2 == 1) := by rw [Int.tmod_eq_emod_of_nonneg (by omega)]
            obtain ⟨y, hy⟩ : ∃ y, ((x : Int) % 2 == 1) = y := ⟨_, rfl⟩
            have HY := Lib.hid (hyy.symm.trans hy)
            clear hyy
            cases y
            all_goals
              go_wp2_with (first
                | (at_builtin; go_loud (refine wpList_append_agg rfl (.tmp 48) (.tmp 50) 22 rfl w.heap.size 33 iT _ 3 32 Try.underlying22 hiT hzT0 hzT1 hzT2 rfl (Nat.succ_pos 2) v had.length _ rfl HOWN.out (thingC (t0, (x : Int), t)) _ _ HSZ.out rfl rfl HONE.out HMX.out HMY.out HBS.out ?_; intro v5 w5 hown5 hgr5 hne5; obtain ⟨hb1, hb2, hb3⟩ := HW.out.append HQA.out hgr5; obtain ⟨g5, c5, rfl⟩ := Go.Joins.ownsRow_form hown5 (Nat.succ_pos _); have x0 := (hb3 ⟨wr.heap.size, 0, none⟩ (Nat.le_refl _) HTN.out.1).trans HTN.out.2.1; have x1 := (hb3 ⟨wr.heap.size, 1, none⟩ (Nat.le_refl _) HTN.out.1).trans HTN.out.2.2.1; have x2 := (hb3 ⟨wr.heap.size, 2, none⟩ (Nat.le_refl _) HTN.out.1).trans HTN.out.2.2.2; have HB5 := Lib.hid (And.intro hown5 (And.intro hb1 (And.intro hb2 (And.intro (Nat.lt_of_lt_of_le HTN.out.1 hgr5.size) trivial)))); clear hown5 hgr5 hne5 hb1 hb2 hb3))
                | (go_at_call 13; go_loud ((with_reducible refine (HKD.out _).mono ?_); rintro e w6 ⟨rfl, h6⟩; have y1 := (Below.cell (p := ⟨wr.heap.size, 1, none⟩) h6 HB5.out.2.2.2.1).trans x1; have y2 := (Below.cell (p := ⟨wr.heap.size, 2, none⟩) h6 HB5.out.2.2.2.1).trans x2; have HO6 := Lib.hid (HB5.out.2.1.step h6); have HR6 := Lib.hid (own_q HB5.out.1 h6); clear h6))
                | (go_at_call 18; go_loud ((with_reducible refine (flagX HO6 _ HC1.out).mono ?_); rintro e w7 ⟨vo', rfl, H7⟩)))
              go_roundw
              case rel => exact ⟨k + 1, had ++ [(t0, (x : Int), t)], _, vo', by omega, HK1, rfl, by go_num, HN1, HW.out.next HGD.out HR6.out HB5.out.2.2.1 ((Q.refl _).alloc _) H7.out (by have h := flag_enc (t := (t0, (x : Int), t)) HKK.out ([72, 89, kk] ++ had.flatMap encT); rw [HY.out] at h; exact h)⟩
              case measure => simp [intOf]; omega
          · have h3 : kd = 3 := by omega
            subst h3
            have HKD : Hid (∀ w, Calls Try.prog 13 #[.agg #[.int .i64 t0, .int .i64 (x : Int), .string t]] w fun e w' => e = .returned (.int .i64 3) ∧ Q w w') := hkd
            clear hkd hkd4
            go_wp2_with (first
              | (at_builtin; go_loud (refine wpList_append_agg rfl (.tmp 48) (.tmp 50) 22 rfl w.heap.size 33 iT _ 3 32 Try.underlying22 hiT hzT0 hzT1 hzT2 rfl (Nat.succ_pos 2) v had.length _ rfl HOWN.out (thingC (t0, (x : Int), t)) _ _ HSZ.out rfl rfl HONE.out HMX.out HMY.out HBS.out ?_; intro v5 w5 hown5 hgr5 hne5; obtain ⟨hb1, hb2, hb3⟩ := HW.out.append HQA.out hgr5; obtain ⟨g5, c5, rfl⟩ := Go.Joins.ownsRow_form hown5 (Nat.succ_pos _); have x0 := (hb3 ⟨wr.heap.size, 0, none⟩ (Nat.le_refl _) HTN.out.1).trans HTN.out.2.1; have x1 := (hb3 ⟨wr.heap.size, 1, none⟩ (Nat.le_refl _) HTN.out.1).trans HTN.out.2.2.1; have x2 := (hb3 ⟨wr.heap.size, 2, none⟩ (Nat.le_refl _) HTN.out.1).trans HTN.out.2.2.2; have HB5 := Lib.hid (And.intro hown5 (And.intro hb1 (And.intro hb2 (And.intro (Nat.lt_of_lt_of_le HTN.out.1 hgr5.size) trivial)))); clear hown5 hgr5 hne5 hb1 hb2 hb3))
              | (go_at_call 13; go_loud ((with_reducible refine (HKD.out _).mono ?_); rintro e w6 ⟨rfl, h6⟩; have y1 := (Below.cell (p := ⟨wr.heap.size, 1, none⟩) h6 HB5.out.2.2.2.1).trans x1; have y2 := (Below.cell (p := ⟨wr.heap.size, 2, none⟩) h6 HB5.out.2.2.2.1).trans x2; have HO6 := Lib.hid (HB5.out.2.1.step h6); have HR6 := Lib.hid (own_q HB5.out.1 h6); clear h6))
              | (refine gate 82 rfl ?_; go_loud (refine wpList_bytes_str rfl 9 23 5 (.tmp 81) rfl Try.underlying9 Try.underlying23 Try.underlying5 t rfl ?_; intro cb wb hb1 hb2 hb3 hb4; have HBB := Lib.hid (And.intro hb1 (And.intro hb2 hb3)); clear hb1 hb2 hb3 hb4))
              | (go_at_call 19; go_loud ((with_reducible refine (rawX HO6 HBB.out.2.1 t.size cb (bytesOf t) (bytesOf_len t) HBB.out.1 HBB.out.2.2 (bytesOf_byte t) HTS2.out HC1.out).mono ?_); rintro e w7 ⟨vo', rfl, H7⟩)))
            go_roundw
            case rel => exact ⟨k + 1, had ++ [(t0, (x : Int), t)], _, vo', by omega, HK1, rfl, by go_num, HN1, HW.out.next HGD.out HR6.out HB5.out.2.2.1 (Q.alloc HBB.out.2.1 _) H7.out (raw_enc (t := (t0, (x : Int), t)) HKK.out _)⟩
            case measure => simp [intOf]; omega
    · have hcase : ¬ k < n ∨ (k < n ∧ ¬ k < 40) := by have : k < n → ¬ k < 40 := fun h1 h2 => hlt ⟨h1, h2⟩; omega
      have hk40 : k ≤ 40 := HK40.out
      clear hlt
      obtain ⟨A8, c8, rfl⟩ := own_form HW.out.row
      have hF : ([72, 89, kk] ++ had.flatMap encT).length ≤ 20000 := by have h1 := encs_len had HW.out.good; have h2 := HN.out; rw [List.length_append]; simp only [List.length_cons, List.length_nil]; omega
      have hhl40 : had.length ≤ 40 := by have := HN.out; omega
      have hby := Lib.hid (bytesX (Lib.hid HW.out.out) (by have := HN.out; omega))
      obtain ⟨F, hFF⟩ : ∃ F, F = had.flatMap encT := ⟨_, rfl⟩
      have HFF := Lib.hid hFF
      rw [← hFF] at hby hF
      clear hFF
      obtain ⟨j, hj, hj2, hj3⟩ : ∃ j : Nat, IntKind.u8.wrap ((kk : Int) + 1) = (j : Int) ∧ j ≤ 255 ∧ kk ≠ j := ⟨(kk + 1) % 256, by simp [IntKind.wrap, IntKind.bits, IntKind.signed], by omega, by omega⟩
      have HJ := Lib.hid (And.intro hj2 hj3)
      clear hj2 hj3
      have HFL := Lib.hid hF
      clear hF
      have HBYT : Hid (∀ y ∈ [72, 89, kk] ++ F, y ≤ 255) := by rw [HFF.out]; exact HW.out.out.has.byte
      rcases hcase with h1 | ⟨h1, h2⟩
      all_goals
        go_wp2_with (first
          | (go_at_call 9; go_loud ((with_reducible refine hby.out.mono ?_); rintro e w2 ⟨A2, cp2, n2, rfl, H3⟩))
          | (go_at_call 10; go_loud ((with_reducible refine (hgl _).out.mono ?_); rintro e w3 ⟨rfl, HG⟩; have HOP := Lib.hid (open_full H3 HG.out HFL.out HBYT.out j HJ.out.1)))
          | (go_at_call 20; go_loud ((with_reducible refine HOP.out.mono ?_); rw [open_other HJ.out.2]; rintro e w4 ⟨g4, rfl, h4, h5⟩; have H4 := Lib.hid (And.intro h4 h5); clear h4 h5))
          | (go_at_call 22; go_loud ((with_reducible refine (err_in _ g4 2 [] w4 H4.out.1).mono ?_); rintro e w5 ⟨rfl, rfl⟩)))
        have HQ24 : Hid (Q w2 w4) := HG.out.trans' H4.out.2
        go_loopw [11, 13] (fun b r wx => ∃ rr m : Nat, rr ≤ 2 ∧ m ≤ n2 ∧ b = .slice A2 m cp2 ∧ r = .int .i64 rr ∧ Hid ((rr = 0 → m = n2) ∧ (rr = 1 → m < n2) ∧ Q w2 wx)) (fun _ r _ => 2 - (intOf r).toNat)
        case atStart => exact ⟨0, n2, by omega, by omega, rfl, rfl, fun _ => rfl, by omega, HQ24.out⟩
        case round =>
          obtain ⟨rr, m, hrr, hmn, rfl, rfl, HR⟩ := hrel
          by_cases hr2 : rr < 2
          · obtain ⟨rb, hrb⟩ : ∃ rb, ((rr : Int) == 0) = rb := ⟨_, rfl⟩
            have HRB : Hid (rb = true ↔ rr = 0) := by show _ ↔ _; rw [← hrb, beq_iff_eq]; omega
            have HOP2 := Lib.hid (open_row H3 HR.out.2.2 HFL.out HBYT.out kk hkk m hmn)
            have HLF : Hid (Left had (([72, 89, kk] ++ F).drop m) 0 (openRd kk (([72, 89, kk] ++ F).take m))) := by rw [HFF.out]; exact left_open kk m had
            obtain ⟨⟨e0, B0⟩, hs0⟩ : ∃ s, openRd kk (([72, 89, kk] ++ F).take m) = s := ⟨_, rfl⟩
            rw [hs0] at HLF HOP2
            clear hs0
            have HMM : Hid (rb = true → ([72, 89, kk] ++ F).drop m = []) := fun h => by
              rw [HR.out.1 (HRB.out.1 h)]; exact List.drop_of_length_le (by rw [H3.out.1]; exact Nat.le_refl _)
            have HMN : Hid (rb = false → rr = 1 ∧ ([72, 89, kk] ++ F).drop m ≠ []) := fun h => by
              have h1 : rr = 1 := by
                rcases Nat.lt_or_ge 0 rr with h2 | h2
                · omega
                · have := HRB.out.2 (by omega); rw [h] at this; cases this
              refine ⟨h1, fun h2 => ?_⟩
              have h3 := HR.out.2.1 h1
              have h4 := congrArg List.length h2
              rw [List.length_drop, H3.out.1] at h4
              simp only [List.length_nil] at h4
              omega
            obtain ⟨M, hM⟩ : ∃ M, M = ([72, 89, kk] ++ F).drop m := ⟨_, rfl⟩
            rw [← hM] at HLF HMM HMN
            clear hM
            obtain ⟨wo, rfl⟩ : ∃ wo : World, wo = wr := ⟨_, rfl⟩
            go_wp2_with (go_at_call 20; go_loud ((with_reducible refine HOP2.out.mono ?_); rintro e w6 ⟨g6, rfl, h4, h5⟩; have H6 := Lib.hid (And.intro h4 h5); clear h4 h5))
            go_loopw [15] (fun i wy => ∃ (jj e0 : Nat) (B : List Nat), jj ≤ had.length ∧ i = .int .i64 jj ∧ Hid (InHas wy wo.heap.size g6 e0 B ∧ Left had M jj (e0, B) ∧ Q wo wy)) (fun i _ => had.length - (intOf i).toNat)
            case atStart => exact ⟨0, e0, B0, by omega, rfl, H6.out.1, HLF.out, H6.out.2⟩
            case round =>
              obtain ⟨jj, e1, B, hjj, rfl, HI⟩ := hrel
              by_cases hjl : jj < had.length
              · have hsee := own_seesS (own_q HW.out.row (H3.out.2.2.trans' (HR.out.2.2.trans' HI.out.2.2)))
                have hat := fun i (hi : i < 3) => flat_at (f := thingC) (size := 3) had (fun _ _ => rfl) jj i hjl hi
                obtain ⟨b8, o8, rfl, hb8, hc0⟩ := hsee.at_ (k := jj * 3 + 0) (hat 0 (by omega))
                obtain ⟨_, _, e', _, hc1⟩ := hsee.at_ (k := jj * 3 + 1) (hat 1 (by omega))
                injection e' with e'; injection e' with e1' e2' _; subst e1' e2'
                obtain ⟨_, _, e', _, hc2⟩ := hsee.at_ (k := jj * 3 + 2) (hat 2 (by omega))
                injection e' with e'; injection e' with e1' e2' _; subst e1' e2'
                have HGD := Lib.hid (HW.out.good had[jj] (List.getElem_mem hjl))
                have HLN := Lib.hid (left_num HI.out.2.1 hjl HGD.out)
                have HLR := Lib.hid (left_raw HI.out.2.1 hjl)
                have HLT := Lib.hid (left_text HI.out.2.1 hjl HGD.out)
                have HLG := Lib.hid (left_flag HI.out.2.1 hjl)
                clear hsee hat hb8
                generalize had[jj] = tt at *
                obtain ⟨u0, u1, u2⟩ := tt
                have hd0 : wr.cell? ⟨b8, o8 + jj * 3, none⟩ = some (.int .i64 u0) := hc0
                have hd1 : wr.cell? ⟨b8, o8 + jj * 3 + 1, none⟩ = some (.int .i64 u1) := hc1
                have hd2 : wr.cell? ⟨b8, o8 + jj * 3 + 2, none⟩ = some (.string u2) := hc2
                clear hc0 hc1 hc2
                obtain ⟨kd, hkd0⟩ : ∃ kd, kd = kindOf u0 := ⟨_, rfl⟩
                have hkd4 : kd < 4 := by rw [hkd0]; unfold kindOf; omega
                have hkd := fun w => kind_ok u0 u1 u2 w
                rw [← hkd0] at hkd
                have HKK := Lib.hid hkd0
                clear hkd0
                by_cases h0 : kd = 0
                · subst h0
                  have HKD : Hid (∀ w, Calls Try.prog 13 #[.agg #[.int .i64 u0, .int .i64 u1, .string u2]] w fun e w' => e = .returned (.int .i64 0) ∧ Q w w') := hkd
                  clear hkd hkd4
                  have HST := Lib.hid (HLN.out HKK.out.symm)
                  obtain ⟨⟨vv, e2, B2⟩, hs2⟩ : ∃ s, numRd 4611686018427387904 (e1, B) = s := ⟨_, rfl⟩
                  rw [hs2] at HST
                  have HNUM : Hid (∀ wx, InHas wx wo.heap.size g6 e1 B → Calls Try.prog 21 #[.pointer (some ⟨g6, 0, none⟩), .int .i64 4611686018427387904] wx (InDone wx wo.heap.size g6 (.int .i64 (vv : Int)) (e2, B2))) := fun wx h => by
                    have h1 := num_in wo.heap.size g6 e1 B wx 4611686018427387904 h (by omega)
                    rw [hs2] at h1; exact h1
                  clear hs2
                  have HOK : Hid (rb = true → ((vv : Int) == u1) = true) := fun h => by
                    rw [beq_iff_eq]
                    have h1 := HST.out.2 (HMM.out h)
                    have h2 := HGD.out.1
                    simp only at h1 h2; omega
                  cases rb
                  · go_wp2_with (go_at_call 13; go_loud ((with_reducible refine (HKD.out _).mono ?_); rintro e w7 ⟨rfl, h7⟩; obtain ⟨x, x0, x1, x2⟩ := thing_new h7; have HI7 := Lib.hid ((HI.out.1.q ((Q.refl wr).alloc _)).q h7); have HNE : Hid (¬ wr.heap.size = g6) := (fun h => by have := HI.out.1.lt; omega); have HQ7 := Lib.hid (HI.out.2.2.trans' (((Q.refl wr).alloc _).trans' h7)); clear h7))
                    go_region_held3 (fun w' => w'.cell? ⟨wr.heap.size, 1, none⟩ = some (.int .i64 u1)) (first | exact x1 | exact y1 | go_keep) ((go_at_call 21; go_loud ((with_reducible refine (HNUM.out _ (HI7.out.q ((Q.refl _).drew))).mono ?_); rintro e w8 ⟨rfl, h1, h2⟩; have y1 := (h2.cell (p := ⟨wr.heap.size, 1, none⟩) x HNE.out).trans x1; have H8 := Lib.hid (And.intro h1 h2); clear h1 h2)))
                    go_wp2_with fail
                    go_roundw
                    case rel => exact ⟨jj + 1, e2, B2, by omega, by go_num, H8.out.1, HST.out.1, H8.out.2.q (HQ7.out.drew) (fun k hk => hk ▸ HI.out.1.new)⟩
                    case measure => simp [intOf]; omega
                  · have hok := HOK.out rfl
                    go_wp2_with (go_at_call 13; go_loud ((with_reducible refine (HKD.out _).mono ?_); rintro e w7 ⟨rfl, h7⟩; obtain ⟨x, x0, x1, x2⟩ := thing_new h7; have HI7 := Lib.hid ((HI.out.1.q ((Q.refl wr).alloc _)).q h7); have HNE : Hid (¬ wr.heap.size = g6) := (fun h => by have := HI.out.1.lt; omega); have HQ7 := Lib.hid (HI.out.2.2.trans' (((Q.refl wr).alloc _).trans' h7)); clear h7))
                    go_region_held3 (fun w' => w'.cell? ⟨wr.heap.size, 1, none⟩ = some (.int .i64 u1)) (first | exact x1 | exact y1 | go_keep) ((go_at_call 21; go_loud ((with_reducible refine (HNUM.out _ (HI7.out.q ((Q.refl _).drew))).mono ?_); rintro e w8 ⟨rfl, h1, h2⟩; have y1 := (h2.cell (p := ⟨wr.heap.size, 1, none⟩) x HNE.out).trans x1; have H8 := Lib.hid (And.intro h1 h2); clear h1 h2)))
                    go_wp2_with fail
                    go_roundw
                    case rel => exact ⟨jj + 1, e2, B2, by omega, by go_num, H8.out.1, HST.out.1, H8.out.2.q (HQ7.out.drew) (fun k hk => hk ▸ HI.out.1.new)⟩
                    case measure => simp [intOf]; omega
                · by_cases h1 : kd = 1
                  · subst h1
                    have HKD : Hid (∀ w, Calls Try.prog 13 #[.agg #[.int .i64 u0, .int .i64 u1, .string u2]] w fun e w' => e = .returned (.int .i64 1) ∧ Q w w') := hkd
                    clear hkd hkd4
                    have HST := Lib.hid (HLT.out HKK.out.symm)
                    obtain ⟨⟨vv, e2, B2⟩, hs2⟩ : ∃ s, textRd 300 (e1, B) = s := ⟨_, rfl⟩
                    rw [hs2] at HST
                    have HNUM : Hid (∀ wx, InHas wx wo.heap.size g6 e1 B → Calls Try.prog 23 #[.pointer (some ⟨g6, 0, none⟩), .int .i64 300] wx (InDone wx wo.heap.size g6 (.string (strB vv)) (e2, B2))) := fun wx h => by
                      have h1 := text_in wo.heap.size g6 e1 B wx 300 h (by omega)
                      rw [hs2] at h1; exact h1
                    clear hs2
                    have HOK : Hid (rb = true → ((strB vv).toList == u2.toList) = true) := fun h => by
                      have h1 := HST.out.2 (HMM.out h)
                      simp only at h1
                      rw [h1, strB_bytesOf]; simp
                    cases rb
                    · go_wp2_with (go_at_call 13; go_loud ((with_reducible refine (HKD.out _).mono ?_); rintro e w7 ⟨rfl, h7⟩; obtain ⟨x, x0, x1, x2⟩ := thing_new h7; have HI7 := Lib.hid ((HI.out.1.q ((Q.refl wr).alloc _)).q h7); have HNE : Hid (¬ wr.heap.size = g6) := (fun h => by have := HI.out.1.lt; omega); have HQ7 := Lib.hid (HI.out.2.2.trans' (((Q.refl wr).alloc _).trans' h7)); clear h7))
                      go_region_held3 (fun w' => w'.cell? ⟨wr.heap.size, 2, none⟩ = some (.string u2)) (first | exact x2 | exact y1 | go_keep) ((go_at_call 23; go_loud ((with_reducible refine (HNUM.out _ (HI7.out.q ((Q.refl _).drew))).mono ?_); rintro e w8 ⟨rfl, h1, h2⟩; have y1 := (h2.cell (p := ⟨wr.heap.size, 2, none⟩) x HNE.out).trans x2; have H8 := Lib.hid (And.intro h1 h2); clear h1 h2)))
                      go_wp2_with fail
                      go_roundw
                      case rel => exact ⟨jj + 1, e2, B2, by omega, by go_num, H8.out.1, HST.out.1, H8.out.2.q (HQ7.out.drew) (fun k hk => hk ▸ HI.out.1.new)⟩
                      case measure => simp [intOf]; omega
                    · have hok := HOK.out rfl
                      go_wp2_with (go_at_call 13; go_loud ((with_reducible refine (HKD.out _).mono ?_); rintro e w7 ⟨rfl, h7⟩; obtain ⟨x, x0, x1, x2⟩ := thing_new h7; have HI7 := Lib.hid ((HI.out.1.q ((Q.refl wr).alloc _)).q h7); have HNE : Hid (¬ wr.heap.size = g6) := (fun h => by have := HI.out.1.lt; omega); have HQ7 := Lib.hid (HI.out.2.2.trans' (((Q.refl wr).alloc _).trans' h7)); clear h7))
                      go_region_held3 (fun w' => w'.cell? ⟨wr.heap.size, 2, none⟩ = some (.string u2)) (first | exact x2 | exact y1 | go_keep) ((go_at_call 23; go_loud ((with_reducible refine (HNUM.out _ (HI7.out.q ((Q.refl _).drew))).mono ?_); rintro e w8 ⟨rfl, h1, h2⟩; have y1 := (h2.cell (p := ⟨wr.heap.size, 2, none⟩) x HNE.out).trans x2; have H8 := Lib.hid (And.intro h1 h2); clear h1 h2)))
                      go_wp2_with fail
                      go_roundw
                      case rel => exact ⟨jj + 1, e2, B2, by omega, by go_num, H8.out.1, HST.out.1, H8.out.2.q (HQ7.out.drew) (fun k hk => hk ▸ HI.out.1.new)⟩
                      case measure => simp [intOf]; omega
                  · by_cases h2 : kd = 2
                    · subst h2
                      have HKD : Hid (∀ w, Calls Try.prog 13 #[.agg #[.int .i64 u0, .int .i64 u1, .string u2]] w fun e w' => e = .returned (.int .i64 2) ∧ Q w w') := hkd
                      clear hkd hkd4
                      have HST := Lib.hid (HLG.out HKK.out.symm)
                      obtain ⟨⟨vv, e2, B2⟩, hs2⟩ : ∃ s, flagRd (e1, B) = s := ⟨_, rfl⟩
                      rw [hs2] at HST
                      have HNUM : Hid (∀ wx, InHas wx wo.heap.size g6 e1 B → Calls Try.prog 24 #[.pointer (some ⟨g6, 0, none⟩)] wx (InDone wx wo.heap.size g6 (.bool vv) (e2, B2))) := fun wx h => by
                        have h1 := flag_in wo.heap.size g6 e1 B wx h
                        rw [hs2] at h1; exact h1
                      clear hs2
                      have HOK : Hid (rb = true → (vv == (u1.tmod 2 == 1)) = true) := fun h => by
                        have h1 := HST.out.2 (HMM.out h)
                        simp only at h1
                        rw [h1]; simp
                      cases rb
                      · go_wp2_with (go_at_call 13; go_loud ((with_reducible refine (HKD.out _).mono ?_); rintro e w7 ⟨rfl, h7⟩; obtain ⟨x, x0, x1, x2⟩ := thing_new h7; have HI7 := Lib.hid ((HI.out.1.q ((Q.refl wr).alloc _)).q h7); have HNE : Hid (¬ wr.heap.size = g6) := (fun h => by have := HI.out.1.lt; omega); have HQ7 := Lib.hid (HI.out.2.2.trans' (((Q.refl wr).alloc _).trans' h7)); clear h7))
                        go_region_held3 (fun w' => w'.cell? ⟨wr.heap.size, 1, none⟩ = some (.int .i64 u1)) (first | exact x1 | exact y1 | go_keep) ((go_at_call 24; go_loud ((with_reducible refine (HNUM.out _ (HI7.out.q ((Q.refl _).drew))).mono ?_); rintro e w8 ⟨rfl, h1, h2⟩; have y1 := (h2.cell (p := ⟨wr.heap.size, 1, none⟩) x HNE.out).trans x1; have H8 := Lib.hid (And.intro h1 h2); clear h1 h2)))
                        go_wp2_with fail
                        go_roundw
                        case rel => exact ⟨jj + 1, e2, B2, by omega, by go_num, H8.out.1, HST.out.1, H8.out.2.q (HQ7.out.drew) (fun k hk => hk ▸ HI.out.1.new)⟩
                        case measure => simp [intOf]; omega
                      · have hok := HOK.out rfl
                        go_wp2_with (go_at_call 13; go_loud ((with_reducible refine (HKD.out _).mono ?_); rintro e w7 ⟨rfl, h7⟩; obtain ⟨x, x0, x1, x2⟩ := thing_new h7; have HI7 := Lib.hid ((HI.out.1.q ((Q.refl wr).alloc _)).q h7); have HNE : Hid (¬ wr.heap.size = g6) := (fun h => by have := HI.out.1.lt; omega); have HQ7 := Lib.hid (HI.out.2.2.trans' (((Q.refl wr).alloc _).trans' h7)); clear h7))
                        go_region_held3 (fun w' => w'.cell? ⟨wr.heap.size, 1, none⟩ = some (.int .i64 u1)) (first | exact x1 | exact y1 | go_keep) ((go_at_call 24; go_loud ((with_reducible refine (HNUM.out _ (HI7.out.q ((Q.refl _).drew))).mono ?_); rintro e w8 ⟨rfl, h1, h2⟩; have y1 := (h2.cell (p := ⟨wr.heap.size, 1, none⟩) x HNE.out).trans x1; have H8 := Lib.hid (And.intro h1 h2); clear h1 h2)))
                        go_wp2_with fail
                        go_roundw
                        case rel => exact ⟨jj + 1, e2, B2, by omega, by go_num, H8.out.1, HST.out.1, H8.out.2.q (HQ7.out.drew) (fun k hk => hk ▸ HI.out.1.new)⟩
                        case measure => simp [intOf]; omega
                    · have h3 : kd = 3 := by omega
                      subst h3
                      have HKD : Hid (∀ w, Calls Try.prog 13 #[.agg #[.int .i64 u0, .int .i64 u1, .string u2]] w fun e w' => e = .returned (.int .i64 3) ∧ Q w w') := hkd
                      clear hkd hkd4
                      have HST := Lib.hid (HLR.out HKK.out.symm)
                      obtain ⟨⟨vv, e2, B2⟩, hs2⟩ : ∃ s, rawRd (u2.size : Int) (e1, B) = s := ⟨_, rfl⟩
                      rw [show rawRd (((u0, u1, u2) : Thing).2.2.size : Int) (e1, B) = rawRd (u2.size : Int) (e1, B) from rfl, hs2] at HST
                      have HNUM : Hid (∀ wx, InHas wx wo.heap.size g6 e1 B → Calls Try.prog 25 #[.pointer (some ⟨g6, 0, none⟩), .int .i64 (u2.size : Int)] wx (InRow wx wo.heap.size g6 (vv, (e2, B2)))) := fun wx h => by
                        have h1 := raw_in wo.heap.size g6 e1 B wx (u2.size : Int) h
                        rw [hs2] at h1; exact h1
                      clear hs2
                      have HOK : Hid (rb = true → ((strB vv).toList == u2.toList) = true) := fun h => by
                        have h1 := HST.out.2 (HMM.out h)
                        simp only at h1
                        rw [h1, strB_bytesOf]; simp
                      cases rb
                      · go_wp2_with (go_at_call 13; go_loud ((with_reducible refine (HKD.out _).mono ?_); rintro e w7 ⟨rfl, h7⟩; obtain ⟨x, x0, x1, x2⟩ := thing_new h7; have HI7 := Lib.hid ((HI.out.1.q ((Q.refl wr).alloc _)).q h7); have HNE : Hid (¬ wr.heap.size = g6) := (fun h => by have := HI.out.1.lt; omega); have HQ7 := Lib.hid (HI.out.2.2.trans' (((Q.refl wr).alloc _).trans' h7)); clear h7))
                        refine wp_region_noPanic ?_
                        refine wp_region_held_drew (S := (fun w' => w'.cell? ⟨wr.heap.size, 2, none⟩ = some (.string u2))) (by kernel_rfl) ?_ (fun hHeld => ?_)
                        · exact x2
                        refine wpAnyH_take (i := 0) (v := ?_) rfl (by kernel_rfl) (by kernel_rfl) (by kernel_rfl) (fun _ _ _ h => h) (Or.inl ⟨by rfl, ?_⟩) (by assumption) ?_
                        rotate_left
                        · (intro w hSw; (try dsimp only at hSw); go_split_ands; go_simp; try with_reducible rfl)
                        try simp only [Act.put, List.getElem_toArray, List.getElem_cons_zero, List.getElem_cons_succ, List.setIfInBounds_toArray, List.set_cons_zero, List.set_cons_succ]
                        refine wpAnyH_take (i := 1) (v := ?_) rfl (by kernel_rfl) (by kernel_rfl) (by kernel_rfl) (fun _ _ _ h => h) (Or.inl ⟨by rfl, ?_⟩) (by assumption) ?_
                        rotate_left
                        · (intro w hSw; (try dsimp only at hSw); go_split_ands; go_simp; try with_reducible rfl)
                        try simp only [Act.put, List.getElem_toArray, List.getElem_cons_zero, List.getElem_cons_succ, List.setIfInBounds_toArray, List.set_cons_zero, List.set_cons_succ]
                        refine wpAnyH_take (i := 2) (v := ?_) rfl (by kernel_rfl) (by kernel_rfl) (by kernel_rfl) (fun _ _ _ h => h) (Or.inl ⟨by rfl, ?_⟩) (by assumption) ?_
                        rotate_left
                        · (intro w hSw; (try dsimp only at hSw); go_split_ands; go_simp; try with_reducible rfl)
                        try simp only [Act.put, List.getElem_toArray, List.getElem_cons_zero, List.getElem_cons_succ, List.setIfInBounds_toArray, List.set_cons_zero, List.set_cons_succ]
                        refine wpAnyH_take (i := 3) (v := ?_) rfl (by kernel_rfl) (by kernel_rfl) (by kernel_rfl) (fun _ _ _ h => h) (Or.inl ⟨by rfl, ?_⟩) (by assumption) ?_
                        rotate_left
                        · (intro w hSw; (try dsimp only at hSw); go_split_ands; go_simp; try with_reducible rfl)
                        try simp only [Act.put, List.getElem_toArray, List.getElem_cons_zero, List.getElem_cons_succ, List.setIfInBounds_toArray, List.set_cons_zero, List.set_cons_succ]
                        refine wpAnyH_take (i := 6) (v := ?_) rfl (by kernel_rfl) (by kernel_rfl) (by kernel_rfl) (fun _ _ _ h => h) (Or.inl ⟨by rfl, ?_⟩) (by assumption) ?_
                        rotate_left
                        · (intro w hSw; (try dsimp only at hSw); go_split_ands; go_simp; try with_reducible rfl)
                        try simp only [Act.put, List.getElem_toArray, List.getElem_cons_zero, List.getElem_cons_succ, List.setIfInBounds_toArray, List.set_cons_zero, List.set_cons_succ]
                        refine wpAnyH_take (i := 7) (v := ?_) rfl (by kernel_rfl) (by kernel_rfl) (by kernel_rfl) (fun _ _ _ h => h) (Or.inl ⟨by rfl, ?_⟩) (by assumption) ?_
                        rotate_left
                        · (intro w hSw; (try dsimp only at hSw); go_split_ands; go_simp; try with_reducible rfl)
                        try simp only [Act.put, List.getElem_toArray, List.getElem_cons_zero, List.getElem_cons_succ, List.setIfInBounds_toArray, List.set_cons_zero, List.set_cons_succ]
                        refine wpAnyH_ready (rs := [4]) (by kernel_rfl) (by simp) (AllReadyH.cons rfl (fun K hK => ?_) AllReadyH.nil)
                        go_simp
                        go_at_call 25
                        with_reducible refine (HNUM.out _ (HI7.out.q ((Q.refl _).drew))).mono ?_
                        rintro e w8 ⟨B9, m9, c9, rfl, g1, g2, h1, h2⟩
                        have hk := run_convert_sees (P := Try.prog) w8 23 9 5 Try.underlying23 Try.underlying5 Try.underlying9 _ B9 m9 c9 vv g1 (sees_own g2)
                        clear g1 g2
                        have y1 := (h2.cell (p := ⟨wr.heap.size, 2, none⟩) x HNE.out).trans x2
                        have H8 := Lib.hid (And.intro h1 h2)
                        clear h1 h2
                        go_wp2_with fail
                        refine hK.out _ _ ?_ (fun hHeld => ?_)
                        · first | exact x2 | exact y1 | go_keep
                        clear hK K
                        try simp only [Act.put, List.getElem_toArray, List.getElem_cons_zero, List.getElem_cons_succ, List.setIfInBounds_toArray, List.set_cons_zero, List.set_cons_succ]
                        refine wpAnyH_ready (rs := [5]) (by kernel_rfl) (by simp) (AllReadyH.cons rfl (fun K hK => ?_) AllReadyH.nil)
                        go_simp
                        refine hK.out _ _ ?_ (fun hHeld => ?_)
                        · first | exact x2 | exact y1 | go_keep
                        clear hK K
                        try simp only [Act.put, List.getElem_toArray, List.getElem_cons_zero, List.getElem_cons_succ, List.setIfInBounds_toArray, List.set_cons_zero, List.set_cons_succ]
                        refine wpAnyH_take (i := 8) (v := ?_) rfl (by kernel_rfl) (by kernel_rfl) (by kernel_rfl) (fun _ _ _ h => h) (Or.inl ⟨by rfl, ?_⟩) (by assumption) ?_
                        rotate_left
                        · (intro w hSw; (try dsimp only at hSw); go_split_ands; go_simp; try with_reducible rfl)
                        try simp only [Act.put, List.getElem_toArray, List.getElem_cons_zero, List.getElem_cons_succ, List.setIfInBounds_toArray, List.set_cons_zero, List.set_cons_succ]
                        refine wpAnyH_take (i := 9) (v := ?_) rfl (by kernel_rfl) (by kernel_rfl) (by kernel_rfl) (fun _ _ _ h => h) (Or.inl ⟨by rfl, ?_⟩) (by assumption) ?_
                        rotate_left
                        · (intro w hSw; (try dsimp only at hSw); go_split_ands; go_simp; try with_reducible rfl)
                        try simp only [Act.put, List.getElem_toArray, List.getElem_cons_zero, List.getElem_cons_succ, List.setIfInBounds_toArray, List.set_cons_zero, List.set_cons_succ]
                        refine wpAnyH_done (by kernel_rfl) ?_ _
                        refine NoPanic.normal ?_
                        go_wp2_with fail
                        go_roundw
                        case rel => exact ⟨jj + 1, e2, B2, by omega, by go_num, H8.out.1, HST.out.1, H8.out.2.q (HQ7.out.drew) (fun k hk => hk ▸ HI.out.1.new)⟩
                        case measure => simp [intOf]; omega
                      · have hok := HOK.out rfl
                        go_wp2_with (go_at_call 13; go_loud ((with_reducible refine (HKD.out _).mono ?_); rintro e w7 ⟨rfl, h7⟩; obtain ⟨x, x0, x1, x2⟩ := thing_new h7; have HI7 := Lib.hid ((HI.out.1.q ((Q.refl wr).alloc _)).q h7); have HNE : Hid (¬ wr.heap.size = g6) := (fun h => by have := HI.out.1.lt; omega); have HQ7 := Lib.hid (HI.out.2.2.trans' (((Q.refl wr).alloc _).trans' h7)); clear h7))
                        refine wp_region_noPanic ?_
                        refine wp_region_held_drew (S := (fun w' => w'.cell? ⟨wr.heap.size, 2, none⟩ = some (.string u2))) (by kernel_rfl) ?_ (fun hHeld => ?_)
                        · exact x2
                        refine wpAnyH_take (i := 0) (v := ?_) rfl (by kernel_rfl) (by kernel_rfl) (by kernel_rfl) (fun _ _ _ h => h) (Or.inl ⟨by rfl, ?_⟩) (by assumption) ?_
                        rotate_left
                        · (intro w hSw; (try dsimp only at hSw); go_split_ands; go_simp; try with_reducible rfl)
                        try simp only [Act.put, List.getElem_toArray, List.getElem_cons_zero, List.getElem_cons_succ, List.setIfInBounds_toArray, List.set_cons_zero, List.set_cons_succ]
                        refine wpAnyH_take (i := 1) (v := ?_) rfl (by kernel_rfl) (by kernel_rfl) (by kernel_rfl) (fun _ _ _ h => h) (Or.inl ⟨by rfl, ?_⟩) (by assumption) ?_
                        rotate_left
                        · (intro w hSw; (try dsimp only at hSw); go_split_ands; go_simp; try with_reducible rfl)
                        try simp only [Act.put, List.getElem_toArray, List.getElem_cons_zero, List.getElem_cons_succ, List.setIfInBounds_toArray, List.set_cons_zero, List.set_cons_succ]
                        refine wpAnyH_take (i := 2) (v := ?_) rfl (by kernel_rfl) (by kernel_rfl) (by kernel_rfl) (fun _ _ _ h => h) (Or.inl ⟨by rfl, ?_⟩) (by assumption) ?_
                        rotate_left
                        · (intro w hSw; (try dsimp only at hSw); go_split_ands; go_simp; try with_reducible rfl)
                        try simp only [Act.put, List.getElem_toArray, List.getElem_cons_zero, List.getElem_cons_succ, List.setIfInBounds_toArray, List.set_cons_zero, List.set_cons_succ]
                        refine wpAnyH_take (i := 3) (v := ?_) rfl (by kernel_rfl) (by kernel_rfl) (by kernel_rfl) (fun _ _ _ h => h) (Or.inl ⟨by rfl, ?_⟩) (by assumption) ?_
                        rotate_left
                        · (intro w hSw; (try dsimp only at hSw); go_split_ands; go_simp; try with_reducible rfl)
                        try simp only [Act.put, List.getElem_toArray, List.getElem_cons_zero, List.getElem_cons_succ, List.setIfInBounds_toArray, List.set_cons_zero, List.set_cons_succ]
                        refine wpAnyH_take (i := 6) (v := ?_) rfl (by kernel_rfl) (by kernel_rfl) (by kernel_rfl) (fun _ _ _ h => h) (Or.inl ⟨by rfl, ?_⟩) (by assumption) ?_
                        rotate_left
                        · (intro w hSw; (try dsimp only at hSw); go_split_ands; go_simp; try with_reducible rfl)
                        try simp only [Act.put, List.getElem_toArray, List.getElem_cons_zero, List.getElem_cons_succ, List.setIfInBounds_toArray, List.set_cons_zero, List.set_cons_succ]
                        refine wpAnyH_take (i := 7) (v := ?_) rfl (by kernel_rfl) (by kernel_rfl) (by kernel_rfl) (fun _ _ _ h => h) (Or.inl ⟨by rfl, ?_⟩) (by assumption) ?_
                        rotate_left
                        · (intro w hSw; (try dsimp only at hSw); go_split_ands; go_simp; try with_reducible rfl)
                        try simp only [Act.put, List.getElem_toArray, List.getElem_cons_zero, List.getElem_cons_succ, List.setIfInBounds_toArray, List.set_cons_zero, List.set_cons_succ]
                        refine wpAnyH_ready (rs := [4]) (by kernel_rfl) (by simp) (AllReadyH.cons rfl (fun K hK => ?_) AllReadyH.nil)
                        go_simp
                        go_at_call 25
                        with_reducible refine (HNUM.out _ (HI7.out.q ((Q.refl _).drew))).mono ?_
                        rintro e w8 ⟨B9, m9, c9, rfl, g1, g2, h1, h2⟩
                        have hk := run_convert_sees (P := Try.prog) w8 23 9 5 Try.underlying23 Try.underlying5 Try.underlying9 _ B9 m9 c9 vv g1 (sees_own g2)
                        clear g1 g2
                        have y1 := (h2.cell (p := ⟨wr.heap.size, 2, none⟩) x HNE.out).trans x2
                        have H8 := Lib.hid (And.intro h1 h2)
                        clear h1 h2
                        go_wp2_with fail
                        refine hK.out _ _ ?_ (fun hHeld => ?_)
                        · first | exact x2 | exact y1 | go_keep
                        clear hK K
                        try simp only [Act.put, List.getElem_toArray, List.getElem_cons_zero, List.getElem_cons_succ, List.setIfInBounds_toArray, List.set_cons_zero, List.set_cons_succ]
                        refine wpAnyH_ready (rs := [5]) (by kernel_rfl) (by simp) (AllReadyH.cons rfl (fun K hK => ?_) AllReadyH.nil)
                        go_simp
                        refine hK.out _ _ ?_ (fun hHeld => ?_)
                        · first | exact x2 | exact y1 | go_keep
                        clear hK K
                        try simp only [Act.put, List.getElem_toArray, List.getElem_cons_zero, List.getElem_cons_succ, List.setIfInBounds_toArray, List.set_cons_zero, List.set_cons_succ]
                        refine wpAnyH_take (i := 8) (v := ?_) rfl (by kernel_rfl) (by kernel_rfl) (by kernel_rfl) (fun _ _ _ h => h) (Or.inl ⟨by rfl, ?_⟩) (by assumption) ?_
                        rotate_left
                        · (intro w hSw; (try dsimp only at hSw); go_split_ands; go_simp; try with_reducible rfl)
                        try simp only [Act.put, List.getElem_toArray, List.getElem_cons_zero, List.getElem_cons_succ, List.setIfInBounds_toArray, List.set_cons_zero, List.set_cons_succ]
                        refine wpAnyH_take (i := 9) (v := ?_) rfl (by kernel_rfl) (by kernel_rfl) (by kernel_rfl) (fun _ _ _ h => h) (Or.inl ⟨by rfl, ?_⟩) (by assumption) ?_
                        rotate_left
                        · (intro w hSw; (try dsimp only at hSw); go_split_ands; go_simp; try with_reducible rfl)
                        try simp only [Act.put, List.getElem_toArray, List.getElem_cons_zero, List.getElem_cons_succ, List.setIfInBounds_toArray, List.set_cons_zero, List.set_cons_succ]
                        refine wpAnyH_done (by kernel_rfl) ?_ _
                        refine NoPanic.normal ?_
                        go_wp2_with fail
                        go_roundw
                        case rel => exact ⟨jj + 1, e2, B2, by omega, by go_num, H8.out.1, HST.out.1, H8.out.2.q (HQ7.out.drew) (fun k hk => hk ▸ HI.out.1.new)⟩
                        case measure => simp [intOf]; omega
              · have hje : jj = had.length := by omega
                subst hje
                have HEND := Lib.hid (left_end HI.out.2.1)
                have HENC := Lib.hid (end_in wo.heap.size g6 e1 B wr HI.out.1)
                have HQE : Hid (∀ w9, Only (fun k => k = g6) wr w9 → Q w2 w9) := fun w9 h => HR.out.2.2.trans' (h.q HI.out.2.2 (fun k hk => hk ▸ HI.out.1.new))
                cases rb
                · obtain ⟨hr1, hMne⟩ := HMN.out rfl
                  have HE3 : Hid (Calls Try.prog 26 #[.pointer (some ⟨g6, 0, none⟩)] wr (InDone wr wo.heap.size g6 (.int .i64 3) (endRd (e1, B)))) := by
                    have h1 := HENC.out
                    rw [HEND.out, if_neg hMne] at h1; exact h1
                  subst hr1
                  clear hMne
                  go_wp2_with (go_at_call 26; go_loud ((with_reducible refine HE3.out.mono ?_); rintro e w9 ⟨rfl, h1, h2⟩; have H9 := Lib.hid (HQE.out w9 h2); clear h1 h2))
                  go_roundw
                  case rel => exact ⟨2, m, by omega, by omega, rfl, rfl, by omega, by omega, H9.out⟩
                  case measure => simp [intOf]
                · have hr0 := HRB.out.1 rfl
                  have HE0 : Hid (Calls Try.prog 26 #[.pointer (some ⟨g6, 0, none⟩)] wr (InDone wr wo.heap.size g6 (.int .i64 0) (endRd (e1, B)))) := by
                    have h1 := HENC.out
                    rw [HEND.out, if_pos (HMM.out rfl)] at h1; exact h1
                  subst hr0
                  obtain ⟨mx, hmx, hmx2⟩ := modlen cut m (by have h1 := H3.out.1; have h2 := HR.out.1 rfl; rw [List.length_append] at h1; simp at h1; omega) (by have h1 := H3.out.1; have h2 := HFL.out; omega)
                  have hmc : mx ≤ cp2 := by have h1 := (own_cap H3.out.2.1).1; omega
                  have hmu : IntKind.u64.wrap (m : Int) = (m : Int) := by have h1 := H3.out.1; have h2 := HFL.out; rw [IntKind.wrap_u64]; omega
                  have hm0 : ¬ m = 0 := by omega
                  have hm0' : 0 < m := by omega
                  have HMX := Lib.hid hmx2
                  clear hmx2
                  go_wp2_with (go_at_call 26; go_loud ((with_reducible refine HE0.out.mono ?_); rintro e w9 ⟨rfl, h1, h2⟩; have H9 := Lib.hid (HQE.out w9 h2); clear h1 h2))
                  go_roundw
                  case rel => exact ⟨1, mx, by omega, by have := HMX.out; omega, rfl, rfl, by omega, (fun _ => by have := HMX.out; omega), H9.out⟩
                  case measure => simp [intOf]
          · have hr2' : rr = 2 := by omega
            subst hr2'
            go_wp2_with fail
            go_ret
            exact ⟨rfl, Lib.hid (HW.out.out.q.trans' (H3.out.2.2.trans' HR.out.2.2))⟩
theorem back_true (k : Int) (hk : (Lit.int .u8 k).wf = true) (A : Option Addr) (n c : Nat) (ts : List Thing) (cut : Int) (_ : (Lit.int .i64 cut).wf = true) (w : World) (h : RowOfR w 3 ThingR A n c ts) :
    Calls Try.prog 7 #[.int .u8 k, .slice A n c, .int .i64 cut] w fun e w' => e = .returned (.bool true) ∧ Below w.heap.size w w' := by
  obtain ⟨k0, k1⟩ := wf8 hk
  obtain ⟨kk, rfl⟩ := Int.eq_ofNat_of_zero_le k0
  have hmax := h.max
  have hle := h.le
  unfold maxLen at hmax
  refine (back_ok kk (by omega) A n c ts cut w (by omega) (by rw [h.len]; exact h.le) (h.sees thingC fun cs a hr => hr.1) (fun t ht => ?_)).mono fun e w' ⟨h1, h2⟩ => ⟨h1, h2.out⟩
  obtain ⟨cs, hr⟩ := h.all t ht
  have := hr.2.2.2
  unfold maxLen at this
  omega
end Go.Proofs.Ytbbpdcnkiljjgaa
