/- The walk through Sizes. -/
import Derived.Test.YtcdbffgmgfblkaaDoorCutE
namespace Go.Proofs.YtcdbffgmgfblkaaDoor
set_option linter.unusedVariables false
set_option linter.unusedSimpArgs false
open Go.RowKit

theorem info3 : (Tryd.prog.info? 3).map (fun i => (i.zero, i.size, i.bytes)) = some (some (.int .i64 0), 1, 8) := by kernel_rfl

theorem KnifeHas.mono {w : World} {base base' kn r lb : Nat} {ru : Rl} {p : List Nat} {v : Value} (h : KnifeHas w base kn r lb ru p v) (hb : base' ≤ base) : KnifeHas w base' kn r lb ru p v :=
  ⟨h.row, own_mono h.own hb, h.roll, h.far, h.apart, ⟨Nat.le_trans hb h.new.1, Nat.le_trans hb h.new.2.1, Nat.le_trans hb h.new.2.2⟩, h.byte⟩
theorem KnifeHas.notS {w : World} {base kn r lb : Nat} {ru : Rl} {p : List Nat} {v : Value} (h : KnifeHas w base kn r lb ru p v) {g : Nat} (hg : g < base) : ¬ KnifeS kn r lb v g := fun hs => by have := h.ge g hs; omega

set_option maxHeartbeats 4000000 in
set_option maxRecDepth 100000 in
theorem sizes_bad (l m b : Int) (p : Nat) (A : Option Addr) (n c : Nat) (w : World) (hp : p ≤ 18446744073709551615) (h : ¬ RuleOk l m b p) :
    Calls Tryd.prog 33 #[ruleV l m b p, .slice A n c] w fun e w' => e = .returned (.tuple #[.slice none 0 0, .int .i64 1]) ∧ Q w w' := by
  have hr := Lib.hid (fun w' => newKnife_bad l m b p w' hp h)
  unfold ruleV at hr ⊢
  go_enter Tryd.func33, Tryd.ntmps33
  go_wp2_with (go_at_call 36; (with_reducible refine (hr.out _).mono ?_); rintro e w' ⟨rfl, hq⟩)
  go_ret2
  exact ⟨rfl, ((Q.refl w).alloc _).step hq⟩

/-- What Sizes leaves. -/
def SizesOut (w : World) (ru : Rl) (l : List Nat) (e : Ending) (w' : World) : Prop :=
  ∃ v, e = .returned (.tuple #[v, .int .i64 0]) ∧ w'.ownsRow w.heap.size 3 1 v (ru.sizes l).length ((ru.sizes l).map I64) ∧ Q w w'

set_option maxHeartbeats 16000000 in
set_option maxRecDepth 100000 in
theorem sizes_ok (ru : Rl) (A : Option Addr) (c : Nat) (l : List Nat) (w : World) (hr : ru.Right) (hm : ru.m ≤ 18446744073709551615) (hs : SeesP w (· < w.heap.size) A (l.map B8)) (hx : ∀ x ∈ l, x ≤ 255) (hl : l.length ≤ 1000000) :
    Calls Tryd.prog 33 #[ruleV ru.least ru.most ru.bits ru.m, .slice A l.length c] w (SizesOut w ru l) := by
  obtain ⟨i0, hi, hz0, hz1, hz2⟩ := info_parts info3
  have hnew := Lib.hid (fun w' => newKnife_ok ru w' hr hm)
  have HS := Lib.hid hs
  have HX := Lib.hid hx
  obtain ⟨n, hn⟩ : ∃ n, n = l.length := ⟨_, rfl⟩
  have HN := Lib.hid hn
  rw [← hn]
  rw [← hn] at hl
  clear hs hx hn
  unfold ruleV at hnew ⊢
  go_enter Tryd.func33, Tryd.ntmps33
  go_wp2_with (first
    | (go_at_call 36; go_loud ((with_reducible refine (hnew.out _).mono ?_); rintro e w1 ⟨kn, r, lb, rfl, hk, hq1⟩; have qA : Q w w1 := ((Q.refl w).alloc _).step hq1; have HK : Hid (KnifeHas w1 w.heap.size kn r lb ru [] (.slice none 0 0)) := hk.mono (by simp); have hfd := Lib.hid (fun t => feed_one ru w.heap.size kn r lb c [] l (.slice none 0 0) A (· < w.heap.size) t w1 hr hm HK.out ru.open_nil (HS.out.below qA) HX.out (fun g hg => ⟨Nat.lt_of_lt_of_le hg qA.size, HK.out.notS hg⟩) (by rw [← HN.out]; exact hl)); rw [← HN.out] at hfd; clear hk hq1))
    | (go_at_call 37; go_loud ((with_reducible refine (hfd.out _).mono ?_); rintro e w2 ⟨zs, out, v', rfl, hF, hz⟩; have HF := Lib.hid hF; have HZ := Lib.hid hz; have qB : Q w w2 := HF.out.only.q qA (fun k hk => HK.out.ge k hk); obtain ⟨oA, oc, rfl⟩ := own_form hF.outs; clear hF hz)))
  have hcount : zs.length ≤ 1000000 := by
    have h1 := congrArg List.length HZ.out
    rw [List.length_map] at h1
    have := ru.feed_count l []
    have := HN.out
    omega
  have HSZ : Hid (ru.sizes l = zs.map (fun z => z.2.length) ++ if (ru.feed [] l).2 = [] then [] else [(ru.feed [] l).2.length]) := by
    show _ = _
    unfold Rl.sizes Rl.pieces
    rw [List.map_append, ← HZ.out, List.map_map]
    congr 1
    split <;> rfl
  have HO := Lib.hid (sees_own HF.out.outs)
  obtain ⟨NN, hNN⟩ : ∃ NN, NN = zs.length := ⟨_, rfl⟩
  have HNN := Lib.hid hNN
  have HI : Hid (w2.ownsRow w2.heap.size 3 1 (.slice none 0 0) 0 ((zs.take 0).map (fun z => I64 z.2.length))) := by rw [List.take_zero]; exact World.ownsRow_nil w2 _ _ _
  rw [← hNN]
  rw [← hNN] at hcount
  clear hNN
  go_loopw [8, 26] (fun x i wr => ∃ k : Nat, k ≤ NN ∧ i = .int .i64 k ∧ Hid (wr.ownsRow w2.heap.size 3 1 x k ((zs.take k).map (fun z => I64 z.2.length))) ∧ Q w2 wr) (fun _ i _ => NN - (intOf i).toNat)
  case atStart => exact ⟨0, by omega, rfl, HI.out, Q.refl _⟩
  case round =>
    obtain ⟨k, hk, rfl, HX, hq⟩ := hrel
    by_cases hlt : k < NN
    · have hkl : k < zs.length := by rw [← HNN.out]; exact hlt
      obtain ⟨b, o, rfl, hb, hc⟩ := HO.out.at_ (k := k) (u := zs[k].1) (by simp [hkl])
      have hc := (hq.cell (p := ⟨b, o + k, none⟩) hb.2).trans hc
      obtain ⟨zA, zc, hz1⟩ := own_form (HF.out.pcs zs[k] (List.getElem_mem hkl)).1
      rw [hz1] at hc
      have HT : Hid ((zs.take (k + 1)).map (fun z => I64 z.2.length) = (zs.take k).map (fun z => I64 z.2.length) ++ [.int .i64 (zs[k].2.length : Int)]) := by
        show _ = _; rw [List.take_succ_eq_append_getElem hkl, List.map_append]; rfl
      have hsz := hq.size
      generalize zs[k].2.length = m at *
      clear hz1 hb
      go_wp2_with (at_builtin; go_loud (refine wpList_append_one rfl (.tmp 30) (.tmp 33) 62 rfl w2.heap.size 3 i0 (.int .i64 0) 8 Tryd.underlying62 hi hz0 hz1 hz2 rfl _ k _ rfl HX.out _ _ _ rfl rfl rfl (by unfold maxLen; omega) (by omega) hsz ?_; intro v3 w3 hown3 hgr3 hne3; rw [← HT.out] at hown3; have H3 := Lib.hid hown3; have hq3 : Q w2 w3 := hgr3.q hq HX.out; clear hown3 hgr3 hne3))
      go_roundw
      case rel => exact ⟨k + 1, by omega, by go_num, H3.out, hq3⟩
      case measure => simp [intOf]; omega
    · obtain rfl : k = NN := by omega
      have HX1 := Lib.hid HX.out
      rw [List.take_of_length_le (by rw [← HNN.out]; omega)] at HX1
      clear HX
      have HK3 := Lib.hid (HF.out.knife.q hq)
      have qC : Q w wr := qB.step hq
      by_cases hp : (ru.feed [] l).2 = []
      · have HN0 := Lib.hid (end_none ru w.heap.size kn r lb v' wr (hp ▸ HK3.out))
        rw [if_pos hp, List.append_nil] at HSZ
        go_wp2_with (go_at_call 38; (with_reducible refine HN0.out.mono ?_); rintro e w4 ⟨rfl, rfl⟩)
        go_ret2
        refine ⟨_, rfl, ?_, qC⟩
        rw [HSZ.out, List.length_map, List.map_map, ← HNN.out]
        exact own_mono HX1.out qB.size
      · have HN1 := Lib.hid (end_some ru w.heap.size kn r lb _ v' wr hr HK3.out hp)
        rw [if_neg hp] at HSZ
        obtain ⟨vA, vc, rfl⟩ := own_form HF.out.knife.own
        have hKlt : ∀ g, OwnK kn r lb g → g < w2.heap.size ∧ w.heap.size ≤ g := fun g hg => by
          have hg' : KnifeS kn r lb (.slice vA (ru.feed [] l).2.length vc) g := by
            rcases hg with h | h | h
            · exact .inl h
            · exact .inr (.inl h)
            · exact .inr (.inr (.inl h))
          exact ⟨HF.out.knife.lt g hg', HF.out.knife.ge g hg'⟩
        have hpl : (ru.feed [] l).2.length ≤ 1000000 := by
          have h := congrArg List.length (ru.feed_join l [])
          rw [List.length_append] at h
          have := HN.out
          simp at h
          omega
        have HKlt := Lib.hid hKlt
        obtain ⟨pl, hpl'⟩ : ∃ pl, pl = (ru.feed [] l).2.length := ⟨_, rfl⟩
        rw [← hpl'] at HN1 HSZ hpl
        have hsz := hq.size
        clear hKlt hpl'
        go_wp2_with (first
          | (go_at_call 38; go_loud ((with_reducible refine HN1.out.mono ?_); rintro e w4 ⟨rfl, hk4, ho4⟩; have H4 := Lib.hid (own_only HX1.out ho4 (fun g hg hs => by have := own_block HX1.out g hg; have := (HKlt.out g hs).1; omega)); have q4 : Q w w4 := ho4.q qC (fun g hg => (HKlt.out g hg).2); have hs4 : w2.heap.size ≤ w4.heap.size := Nat.le_trans hsz ho4.size; clear hk4 ho4))
          | (at_builtin; go_loud (refine wpList_append_one rfl (.tmp 42) (.tmp 45) 62 rfl w2.heap.size 3 i0 (.int .i64 0) 8 Tryd.underlying62 hi hz0 hz1 hz2 rfl _ k _ rfl H4.out _ _ _ rfl rfl rfl (by unfold maxLen; omega) (by omega) hs4 ?_; intro v3 w3 hown3 hgr3 hne3; have H3 := Lib.hid hown3; have hq3 : Q w w3 := hgr3.q q4 (own_mono H4.out qB.size); clear hown3 hgr3 hne3)))
        go_ret2
        refine ⟨_, rfl, ?_, hq3⟩
        rw [HSZ.out, List.length_append, List.length_map, List.map_append, List.map_map, ← HNN.out]
        exact own_mono H3.out qB.size
end Go.Proofs.YtcdbffgmgfblkaaDoor
