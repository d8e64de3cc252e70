/- The walk through Feed. -/
import Derived.Test.YtcdbffgmgfblkaaDoorCutC
namespace Go.Proofs.YtcdbffgmgfblkaaDoor
set_option linter.unusedVariables false
set_option linter.unusedSimpArgs false
open Go.RowKit

theorem info24 : (Tryd.prog.info? 22).map (fun i => (i.zero, i.size, i.bytes)) = some (some (.slice none 0 0), 1, 24) := by kernel_rfl

/-- The parts that are fed. -/
def PartsIn (w : World) (ok : Nat → Prop) (parts : List (Value × List Nat)) : Prop :=
  ∀ z ∈ parts, ∃ B c, z.1 = .slice B z.2.length c ∧ SeesP w ok B (z.2.map B8) ∧ ∀ x ∈ z.2, x ≤ 255
/-- What Feed leaves. -/
def FedOut (w : World) (base kn r lb : Nat) (ru : Rl) (p X : List Nat) (v : Value) (e : Ending) (w' : World) : Prop :=
  ∃ zs out v', e = .returned out ∧ Fed w v w' base kn r lb ru zs out (ru.feed p X).2 v' ∧ zs.map (·.2) = (ru.feed p X).1
/-- On the way. -/
def FedWay (w : World) (v0 : Value) (wr : World) (base kn r lb : Nat) (ru : Rl) (p X : List Nat) (out : Value) : Prop :=
  ∃ zs v', Fed w v0 wr base kn r lb ru zs out (ru.feed p X).2 v' ∧ zs.map (·.2) = (ru.feed p X).1


set_option maxHeartbeats 16000000 in
set_option maxRecDepth 100000 in
theorem feed_ok (ru : Rl) (base kn r lb c : Nat) (p : List Nat) (v : Value) (A : Option Addr) (parts : List (Value × List Nat)) (ok : Nat → Prop) (w : World) (hr : ru.Right) (hm : ru.m ≤ 18446744073709551615) (hk : KnifeHas w base kn r lb ru p v) (hop : ru.Open p)
    (hP : SeesP w ok A (parts.map (·.1))) (hps : PartsIn w ok parts) (hok : ∀ g, ok g → g < w.heap.size ∧ ¬ KnifeS kn r lb v g) (hlen : parts.length ≤ 100) (htot : (parts.flatMap (·.2)).length ≤ 1000000) :
    Calls Tryd.prog 37 #[.pointer (some ⟨kn, 0, none⟩), .slice A parts.length c] w (FedOut w base kn r lb ru p (parts.flatMap (·.2)) v) := by
  obtain ⟨i0, hi, hz0, hz1, hz2⟩ := info_parts info24
  have hbase : base ≤ w.heap.size := by have := hk.row.lt; have := hk.new.1; omega
  have HST : Hid (FedWay w v w base kn r lb ru p ((parts.take 0).flatMap (·.2)) (.slice none 0 0)) := ⟨[], v, by simpa [Rl.feed_nil] using Fed.begin_ hk, by simp [Rl.feed_nil]⟩
  have HP := Lib.hid hP
  have HPS := Lib.hid hps
  have HOK := Lib.hid hok
  have HTOT := Lib.hid htot
  have HOP := Lib.hid hop
  obtain ⟨N, hN⟩ : ∃ N, N = parts.length := ⟨_, rfl⟩
  have HN := Lib.hid hN
  rw [← hN] at hlen ⊢
  clear hP hps hok htot hk hop hN
  go_enter Tryd.func37, Tryd.ntmps37
  go_wp2_with fail
  go_loopw [5, 14] (fun out i wr => ∃ k : Nat, k ≤ N ∧ i = .int .i64 k ∧ Hid (FedWay w v wr base kn r lb ru p ((parts.take k).flatMap (·.2)) out)) (fun _ i _ => N - (intOf i).toNat)
  case atStart => exact ⟨0, by omega, rfl, HST.out⟩
  case round =>
    obtain ⟨k, hkN, rfl, HW⟩ := hrel
    by_cases hlt : k < N
    · have hkl : k < parts.length := by rw [← HN.out]; exact hlt
      obtain ⟨l, B, c', hl1, hl2, hl3, hl4, hl5⟩ : ∃ l B c', (parts.map (·.1))[k]? = some (.slice B l.length c') ∧ SeesP w ok B (l.map B8) ∧ (∀ x ∈ l, x ≤ 255) ∧ (parts.take (k + 1)).flatMap (·.2) = (parts.take k).flatMap (·.2) ++ l ∧ ((parts.take k).flatMap (·.2)).length + l.length ≤ 1000000 := by
        obtain ⟨B, c', h1, h2, h3⟩ := HPS.out parts[k] (List.getElem_mem hkl)
        have e : (parts.take (k + 1)).flatMap (·.2) = (parts.take k).flatMap (·.2) ++ parts[k].2 := by
          rw [List.take_succ_eq_append_getElem hkl, List.flatMap_append]; simp
        refine ⟨parts[k].2, B, c', by rw [List.getElem?_map, List.getElem?_eq_getElem hkl, Option.map_some, h1], h2, h3, e, ?_⟩
        have := HTOT.out
        rw [← List.take_append_drop (k + 1) parts, List.flatMap_append, e, List.length_append, List.length_append] at this
        omega
      generalize (parts.take k).flatMap (·.2) = X at *
      have HL1 := Lib.hid hl1
      have HL2 := Lib.hid hl2
      have HL3 := Lib.hid hl3
      have HL4 := Lib.hid hl4
      have hl6 : l.length ≤ 1000000 := by omega
      have HL5 := Lib.hid hl5
      clear hl1 hl2 hl3 hl4 hl5
      obtain ⟨wo, rfl⟩ : ∃ wo : World, wo = wr := ⟨_, rfl⟩
      have HO : Hid (Only (KnifeS kn r lb v) w wo) := by obtain ⟨_, _, h, _⟩ := HW.out; exact h.only
      obtain ⟨ba, bo, rfl, hba, hbc⟩ := (HO.out.sees HP.out HOK.out).at_ HL1.out
      have HBC := Lib.hid hbc
      clear hba
      go_wp2_with fail
      have HW0 : Hid (FedWay w v wo base kn r lb ru p (X ++ l.take 0) u5) := by rw [List.take_zero, List.append_nil]; exact HW.out
      go_loopw [5, 20] (fun out i wi => ∃ j : Nat, j ≤ l.length ∧ i = .int .i64 j ∧ Hid (FedWay w v wi base kn r lb ru p (X ++ l.take j) out)) (fun _ i _ => l.length - (intOf i).toNat)
      case atStart => exact ⟨0, by omega, rfl, HW0.out⟩
      case round =>
        obtain ⟨j, hjl, rfl, HJ⟩ := hrel
        clear HW HW0
        by_cases hjt : j < l.length
        · have htk : Hid (X ++ l.take (j + 1) = (X ++ l.take j) ++ [l[j]]) := by show _ = _; rw [List.take_succ_eq_append_getElem hjt, List.append_assoc]
          have hXl : (X ++ l.take j).length ≤ 1000000 := by have := HL5.out; simp; omega
          obtain ⟨zs, v1, hF, hz⟩ := HJ.out
          have HF := Lib.hid hF
          have HZ := Lib.hid hz
          obtain ⟨b, o, rfl, hb, hc⟩ := ((HF.out.only).sees HL2.out HOK.out).at_ (k := j) (u := B8 l[j]) (by simp [hjt])
          have hx := HL3.out l[j] (List.getElem_mem hjt)
          generalize l[j] = x at *
          unfold B8 at hc
          have hcount : zs.length ≤ 1000000 := by
            have h1 := congrArg List.length HZ.out
            rw [List.length_map] at h1
            have := ru.feed_count (X ++ l.take j) p
            omega
          have hopn : ru.Open (ru.feed p (X ++ l.take j)).2 := (ru.feed_whole _ _ HOP.out).2
          have hpl : (ru.feed p (X ++ l.take j)).2.length ≤ 65536 := by have := ru.open_len hr hopn; have := hr.m16; omega
          obtain ⟨y, hy, hE⟩ := ends_walk ru base kn r lb x _ v1 wr hr hm HF.out.knife hx hpl
          have HE := Lib.hid hE
          clear hF hz hb hE hopn
          cases y with
          | false =>
            have hno : Hid (ru.feed p (X ++ l.take (j + 1)) = ((ru.feed p (X ++ l.take j)).1, (ru.feed p (X ++ l.take j)).2 ++ [x])) := by
              show _ = _; rw [htk.out]; exact ru.feed_snoc_no (fun h => by have := hy.2 h; cases this)
            clear hy
            go_wp2_with (go_at_call 48; (with_reducible refine HE.out.mono ?_); rintro e w1 ⟨v2, rfl, hk1, ho1, hv1⟩; have HF1 := Lib.hid (HF.out.byte hk1 ho1 hv1); clear hk1 ho1 hv1)
            go_roundw
            case rel => exact ⟨j + 1, by omega, by go_num, zs, v2, by rw [hno.out]; exact HF1.out, by rw [hno.out]; exact HZ.out⟩
            case measure => simp [intOf]; omega
          | true =>
            have hyes : Hid (ru.feed p (X ++ l.take (j + 1)) = ((ru.feed p (X ++ l.take j)).1 ++ [(ru.feed p (X ++ l.take j)).2 ++ [x]], [])) := by
              show _ = _; rw [htk.out]; exact ru.feed_snoc_yes (hy.1 rfl)
            clear hy
            go_wp2_with (first
              | (go_at_call 48; go_loud ((with_reducible refine HE.out.mono ?_); rintro e w1 ⟨v2, rfl, hk1, ho1, hv1⟩; have HF1 := Lib.hid (HF.out.byte hk1 ho1 hv1); clear hk1 ho1 hv1; obtain ⟨vA, vn, vc, rfl⟩ := own_one HF1.out.knife.own))
              | (go_at_call 49; go_loud ((with_reducible refine (take_ok ru base kn r lb _ _ _ hr HF1.out.knife).mono ?_); rintro e w2 ⟨rfl, hk2, ho2⟩; have HK2 := Lib.hid hk2; have HO2 := Lib.hid ho2; have HOWN := Lib.hid (own_only HF1.out.outs ho2 (fun g hg hs => HF1.out.outFar g (by rcases hs with h | h | h; exact .inl h; exact .inr (.inl h); exact .inr (.inr (.inl h))) hg)); have hbase2 : base ≤ w2.heap.size := Nat.le_trans hbase (Nat.le_trans HF1.out.only.size ho2.size); clear hk2 ho2))
              | (at_builtin; go_loud (refine wpList_append_one rfl (.tmp 27) (.tmp 30) 31 rfl base 22 i0 (.slice none 0 0) 24 Tryd.underlying31 hi hz0 hz1 hz2 rfl _ zs.length _ rfl HOWN.out _ _ _ rfl rfl rfl (by unfold maxLen; omega) (by omega) hbase2 ?_; intro v3 w3 hown3 hgr3 hne3; have HF3 := Lib.hid (HF1.out.cut (by simp) HK2.out HO2.out hgr3 hown3); clear hown3 hgr3 hne3)))
            go_roundw
            case rel => exact ⟨j + 1, by omega, by go_num, zs ++ [(_, _)], _, by rw [hyes.out]; exact HF3.out, by rw [hyes.out, List.map_append, HZ.out]; rfl⟩
            case measure => simp [intOf]; omega
        · have HJ1 : Hid (FedWay w v wr base kn r lb ru p ((parts.take (k + 1)).flatMap (·.2)) u5) := by
            rw [HL4.out]
            have h := HJ.out
            rw [List.take_of_length_le (by omega)] at h
            exact h
          clear HJ
          go_wp2_with fail
          go_roundw
          case rel => exact ⟨k + 1, by omega, by go_num, HJ1.out⟩
          case measure => simp [intOf]; omega
    · have HE : Hid (FedWay w v wr base kn r lb ru p (parts.flatMap (·.2)) u5) := by
        have h := HW.out
        rw [List.take_of_length_le (by have := HN.out; omega)] at h
        exact h
      clear HW
      go_wp2_with fail
      go_ret
      obtain ⟨zs, v', h1, h2⟩ := HE.out
      exact ⟨zs, _, v', rfl, h1, h2⟩
end Go.Proofs.YtcdbffgmgfblkaaDoor
