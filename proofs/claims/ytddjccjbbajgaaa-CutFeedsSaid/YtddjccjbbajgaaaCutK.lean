/- The walk through the law CutBounds; words for the laws with a tamed rule. -/
import Derived.Test.YtddjccjbbajgaaaCutJ
namespace Go.Proofs.Ytddjccjbbajgaaa
set_option linter.unusedVariables false
set_option linter.unusedSimpArgs false
open Go.RowKit

theorem RuleAt.drew {w : World} {g : Nat} {l m b : Int} {p : Nat} (h : RuleAt w g l m b p) : RuleAt w.drew g l m b p := ⟨h.c0, h.c1, h.c2, h.c3, h.f0, h.f1, h.f2, h.f3⟩
/-- The box holds the rule that tame made. -/
def Tamed (w wx : World) (ru : Rl) : Prop := RuleAt wx w.heap.size ru.least ru.most ru.bits ru.m ∧ Q w wx ∧ w.heap.size < wx.heap.size
theorem Tamed.step {w wx w' : World} {ru : Rl} (h : Tamed w wx ru) (hq : Q wx w') : Tamed w w' ru := ⟨h.1.q hq h.2.2, h.2.1.step hq, Nat.lt_of_lt_of_le h.2.2 hq.size⟩
theorem tame_any (l m b : Int) (p : Nat) (hp : p ≤ 18446744073709551615) : ∃ ru : Rl, ru.Right ∧ ru.m ≤ 18446744073709551615 ∧ ∀ w, Calls Try.prog 18 #[ruleV l m b p] w fun e w' => e = .returned (ruleV ru.least ru.most ru.bits ru.m) ∧ Q w w' :=
  ⟨tameR l m b p, tame_right l m b p, tame_le l m b p hp, fun w => lawTame l m b p w hp⟩
theorem sizes_law (ru : Rl) (A : Option Addr) (c : Nat) (x : List Nat) (w : World) (hr : ru.Right) (hm : ru.m ≤ 18446744073709551615) (hs : SeesP w (· < w.heap.size) A (x.map B8)) (hx : ∀ y ∈ x, y ≤ 255) (hl : x.length ≤ 1000000) :
    Calls Try.prog 19 #[ruleV ru.least ru.most ru.bits ru.m, .slice A x.length c] w (SzOut w (ru.sizes x) 0) := by
  refine (sizes_ok ru A c x w hr hm hs hx hl).mono fun e w' ⟨v, h1, h2, h3⟩ => ?_
  obtain ⟨A', c', rfl⟩ := own_form h2
  exact ⟨A', c', h1, sees_own h2, h3, (own_cap h2).1, own_nil h2⟩
theorem Rl.whole_len (r : Rl) (hr : r.Right) {p : List Nat} (h : r.Whole p) : r.least ≤ p.length ∧ p.length ≤ r.most := by
  have h1 := hr.l64
  have h2 := hr.lm
  refine ⟨?_, ?_⟩
  · rcases h.ends with h3 | ⟨h3, _⟩
    · omega
    · exact h3
  · rcases Nat.lt_or_ge r.most p.length with h3 | h3
    · exact absurd (.inl (by rw [List.length_take]; omega)) (h.first r.most (by omega) h3)
    · exact h3
theorem Rl.sizes_eq (r : Rl) (b : List Nat) : r.sizes b = (r.feed [] b).1.map List.length ++ if (r.feed [] b).2 = [] then [] else [(r.feed [] b).2.length] := by
  unfold Rl.sizes Rl.pieces
  rw [List.map_append]
  congr 1
  split <;> rfl
theorem Rl.sizes_get (r : Rl) (hr : r.Right) (b : List Nat) (i : Nat) (hi : i < (r.sizes b).length) : 1 ≤ (r.sizes b)[i] ∧ (r.sizes b)[i] ≤ r.most ∧ (i + 1 < (r.sizes b).length → r.least ≤ (r.sizes b)[i]) := by
  obtain ⟨hw, ho⟩ := r.feed_whole b [] r.open_nil
  have h64 := hr.l64
  have hlm := hr.lm
  have key : ∀ v, (r.sizes b)[i]? = some v → 1 ≤ v ∧ v ≤ r.most ∧ (i + 1 < (r.sizes b).length → r.least ≤ v) := by
    intro v hv
    rw [r.sizes_eq] at hv ⊢
    by_cases h1 : i < ((r.feed [] b).1.map List.length).length
    · rw [List.getElem?_append_left h1, List.getElem?_map, Option.map_eq_some_iff] at hv
      obtain ⟨q, hq, rfl⟩ := hv
      obtain ⟨h2, h3⟩ := r.whole_len hr (hw q (List.mem_of_getElem? hq))
      exact ⟨by omega, h3, fun _ => h2⟩
    · rw [List.getElem?_append_right (by omega)] at hv
      split at hv
      · simp at hv
      · rename_i hne
        have h0 : i - ((r.feed [] b).1.map List.length).length = 0 := by
          obtain ⟨h2, _⟩ := List.getElem?_eq_some_iff.1 hv
          simp at h2 ⊢; omega
        rw [h0] at hv
        simp at hv
        subst hv
        have := List.length_pos_iff.2 hne
        have := r.open_len hr ho
        refine ⟨by omega, by omega, fun h => ?_⟩
        rw [List.length_append, if_neg hne] at h
        simp only [List.length_map, List.length_singleton] at h h0 h1
        omega
  exact key _ (List.getElem?_eq_getElem hi)
theorem Rl.sizes_sum (r : Rl) (b : List Nat) : (r.sizes b).sum = b.length := by
  unfold Rl.sizes
  rw [← List.length_flatten, r.pieces_join]
theorem sum_take_succ (s : List Nat) (k : Nat) (h : k < s.length) : (s.take (k + 1)).sum = (s.take k).sum + s[k] := by
  rw [List.take_succ_eq_append_getElem h, List.sum_append]; simp
theorem sum_take_le (s : List Nat) (k : Nat) : (s.take k).sum ≤ s.sum := by
  conv => rhs; rw [← List.take_append_drop k s, List.sum_append]
  omega

set_option maxHeartbeats 16000000 in
set_option maxRecDepth 100000 in
theorem cutBounds_walk (l m b : Int) (p n c K : Nat) (A : Option Addr) (x : List Nat) (w : World) (hp : p ≤ 18446744073709551615) (hs : SeesP w (· < w.heap.size) A (x.map B8)) (hK : K = min n 2500) (hlk : x.length = K) (hx : ∀ y ∈ x, y ≤ 255) (hnc : n ≤ c) (hcm : c ≤ 9223372036854775807) :
    Calls Try.prog 5 #[ruleV l m b p, .slice A n c] w fun e w' => e = .returned (.bool true) ∧ Q w w' := by
  have hby := Lib.hid (fun w' => lawBytes A n c w' hnc hcm)
  rw [← hK] at hby
  have hKc : K ≤ c := by omega
  have hK1 : K ≤ 2500 := by omega
  have hto := Lib.hid (fun l m b p w' => lawTo l m b p w')
  have HR := Lib.hid (fun t => (RuleAt.new w l m b p t).drew)
  obtain ⟨ru, hru, hrm, hta⟩ := tame_any l m b p hp
  have hta := Lib.hid hta
  have HSZ : Hid (∀ w', Q w w' → Calls Try.prog 19 #[ruleV ru.least ru.most ru.bits ru.m, .slice A K c] w' (SzOut w' (ru.sizes x) 0)) := fun w' hq => by
    have h := sizes_law ru A c x w' hru hrm ((hs.below hq).more (fun g hg => Nat.lt_of_lt_of_le hg hq.size)) hx (by omega)
    rw [hlk] at h; exact h
  have HG := Lib.hid (ru.sizes_get hru x)
  have HSUM := Lib.hid ((ru.sizes_sum x).trans hlk)
  have hls : (ru.sizes x).length ≤ 2500 := by
    have h := HG.out
    have h2 := HSUM.out
    have h3 : ∀ s : List Nat, (∀ v ∈ s, 1 ≤ v) → s.length ≤ s.sum := fun s => by
      induction s with
      | nil => simp
      | cons a s ih => intro h; have := h a (List.mem_cons_self ..); have := ih (fun v hv => h v (List.mem_cons_of_mem _ hv)); simp; omega
    have := h3 (ru.sizes x) (fun v hv => by obtain ⟨i, hi, rfl⟩ := List.getElem_of_mem hv; exact (h i hi).1)
    omega
  have hr1 : ru.least ≤ 65536 := by have := hru.lm; have := hru.m16; omega
  have hr2 := hru.m16
  generalize ru.sizes x = s at *
  obtain ⟨ns, hns⟩ : ∃ ns, ns = s.length := ⟨_, rfl⟩
  have HNS := Lib.hid hns
  rw [← hns] at hls
  clear hs hx hlk hK hns
  unfold ruleV at hto hta HSZ ⊢
  go_enter Try.func5, Try.ntmps5
  go_upto_region 1 with fail
  go_cut [1] (fun bv wx => bv = .slice A K c ∧ Hid (Tamed w wx ru))
  case first =>
    go_region_with (first
      | (go_at_call 10; go_loud ((with_reducible refine (hby.out _).mono ?_); rintro e w1 ⟨rfl, rfl⟩))
      | (go_at_call 18; go_loud ((with_reducible refine (hta.out _).mono ?_); rintro e w8 ⟨rfl, hq8⟩; have HR8 := (HR.out _).q hq8 (by simp); have f0 := HR8.f0; have f1 := HR8.f1; have f2 := HR8.f2; have f3 := HR8.f3; have d0 := HR8.c0; have d1 := HR8.c1; have d2 := HR8.c2; have d3 := HR8.c3; have HR8 := Lib.hid HR8)))
    all_goals (go_wp2_with fail; go_meet; exact ⟨rfl, HR8.out.set _ _ _ _, Q.set4 (((Q.refl w).alloc _).drew.step hq8) (Nat.le_refl _) _ _ _ _, by simp [World.setCell]; exact Nat.lt_of_lt_of_le (by simp) hq8.size⟩)
  case rest =>
    obtain ⟨rfl, HT⟩ := hcut
    have c0 := HT.out.1.c0
    have c1 := HT.out.1.c1
    have c2 := HT.out.1.c2
    have c3 := HT.out.1.c3
    go_wp2_with (first
      | (go_at_call 12; go_loud ((with_reducible refine (hto.out _ _ _ _ _).mono ?_); rintro e w9 ⟨rfl, hq9⟩; have HT9 := Lib.hid (HT.out.step hq9); have hQ9 := HT9.out.2.1; clear hq9 c0 c1 c2 c3))
      | (go_at_call 19; go_loud ((with_reducible refine (HSZ.out _ hQ9).mono ?_); rintro e wa ⟨A1, z1, rfl, hs1, hqa, hz1⟩; have HTa := Lib.hid (HT9.out.step hqa); have HS1 := Lib.hid hs1; clear hs1 hqa hz1; rw [← HNS.out]))
      | (go_at_call 15; (with_reducible refine (lawCuts _).mono ?_); rintro e w5 ⟨rfl, hq5⟩; have HT5 := Lib.hid (HTa.out.step hq5); have HS5 := Lib.hid (HS1.out.belowP (fun _ h => h.2) hq5); clear hq5))
    have H0 : Hid ((0 : Int) = ((s.take 0).sum : Nat)) := by show _ = _; simp
    clear HT9 HTa HS1
    go_loopw [7, 8] (fun t i wr => ∃ k y : Nat, k ≤ ns ∧ i = .int .i64 k ∧ t = .int .i64 y ∧ Hid (y = (s.take k).sum) ∧ ∃ d, wr = w5.drewN d) (fun _ i _ => ns - (intOf i).toNat)
    case atStart => exact ⟨0, 0, by omega, rfl, rfl, by show _ = _; simp, 0, rfl⟩
    case round =>
      obtain ⟨k, y, hk, rfl, rfl, HY, d, rfl⟩ := hrel
      have hy1 : y ≤ 2500 := by rw [HY.out]; have := sum_take_le s k; have := HSUM.out; omega
      by_cases hlt : k < ns
      · have hks : k < s.length := by rw [← HNS.out]; exact hlt
        obtain ⟨g1, g2, g3⟩ := HG.out k hks
        have HY1 := Lib.hid (sum_take_succ s k hks)
        rw [← HY.out] at HY1
        obtain ⟨bb, oo, rfl, hbb, hc⟩ := HS5.out.at_ (k := k) (u := I64 s[k]) (by simp [hks])
        generalize s[k] = v at *
        unfold I64 at hc
        have c0 := HT5.out.1.c0
        have c1 := HT5.out.1.c1
        have d1 : decide ((v : Int) < 1) = false := decide_eq_false (by omega)
        have d2 : decide ((ru.most : Int) < (v : Int)) = false := decide_eq_false (by omega)
        have n2 : decide (ru.most < v) = false := decide_eq_false (by omega)
        have n1 : decide (v < 1) = false := decide_eq_false (by omega)
        have hsub : IntKind.i64.wrap ((ns : Int) - 1) = (ns : Int) - 1 := IntWalk.i64_in _ (by omega)
        rw [← HNS.out] at g3
        clear hbb
        by_cases hk1 : (k : Int) < (ns : Int) - 1
        · have d3 : decide ((k : Int) < (ns : Int) - 1) = true := decide_eq_true hk1
          have d4 : decide ((v : Int) < (ru.least : Int)) = false := decide_eq_false (by have := g3 (by omega); omega)
          have n4 : decide (v < ru.least) = false := decide_eq_false (by have := g3 (by omega); omega)
          have hv3 : v ≤ 65536 := by omega
          clear g3
          go_wp2_with fail
          go_quiet (fail)
          go_wp2
          go_roundw
          case rel => exact ⟨k + 1, y + v, by omega, by go_num, by go_num, HY1.out.symm, _, rfl⟩
          case measure => simp [intOf]; omega
        · have d3 : decide ((k : Int) < (ns : Int) - 1) = false := decide_eq_false hk1
          have hv3 : v ≤ 65536 := by omega
          clear g3
          go_wp2_with fail
          go_quiet (fail)
          go_wp2
          go_roundw
          case rel => exact ⟨k + 1, y + v, by omega, by go_num, by go_num, HY1.out.symm, _, rfl⟩
          case measure => simp [intOf]; omega
      · have hend : Hid (y = K) := by
          show y = K
          rw [HY.out, List.take_of_length_le (by rw [← HNS.out]; omega)]; exact HSUM.out
        have hd : ((y : Int) == (K : Int)) = true := by rw [hend.out]; exact beq_self_eq_true _
        have HE := Lib.hid hend.out
        clear hend
        go_wp2_with fail
        go_ret
        exact ⟨rfl, HT5.out.2.1.drewN _⟩

theorem cutBounds_true (l : Int) (wl : (Lit.int .i64 l).wf = true) (m : Int) (wm : (Lit.int .i64 m).wf = true) (b : Int) (wb : (Lit.int .i64 b).wf = true) (a : Int) (wa : (Lit.int .u64 a).wf = true) (A : Option Addr) (n c : Nat) (zs : List Int) (w : World) (wA : IsRow .u8 w A n c zs) :
    Calls Try.prog 5 #[.agg #[.int .i64 l, .int .i64 m, .int .i64 b, .int .u64 a], .slice A n c] w fun e w' => e = .returned (.bool true) ∧ Below w.heap.size w w' := by
  obtain ⟨ha, ha'⟩ := wf64 wa
  obtain ⟨p, rfl⟩ := Int.eq_ofNat_of_zero_le ha
  obtain ⟨h1, h2, h3, h4, h5, h6⟩ := row8 wA (min n 2500) (by omega)
  exact cutBounds_walk l m b p n c _ A _ w (by omega) h2 rfl h1 h3 h4 h5
end Go.Proofs.Ytddjccjbbajgaaa
