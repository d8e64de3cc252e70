/- Sizes and DocSizes by any rule; the walk through the law CutSizes. -/
import Derived.Test.YtddjccjbbajgaaaCutI
import Derived.Deep.RegionWith
import Derived.Deep.DeepCutAuto
namespace Go.Proofs.Ytddjccjbbajgaaa
set_option linter.unusedVariables false
set_option linter.unusedSimpArgs false
open Go.RowKit

/-- What Sizes tells by any rule, and its error. -/
noncomputable def szOf (l m b : Int) (p : Nat) (x : List Nat) : List Nat := if RuleOk l m b p then (⟨l.toNat, m.toNat, b.toNat, p⟩ : Rl).sizes x else []
noncomputable def erOf (l m b : Int) (p : Nat) : Nat := if RuleOk l m b p then 0 else 1
/-- A row of sizes and an error came back. -/
def SzOut (w : World) (s : List Nat) (er : Nat) (e : Ending) (w' : World) : Prop :=
  ∃ A c, e = .returned (.tuple #[.slice A s.length c, .int .i64 (er : Int)]) ∧ SeesP w' (fun g => w.heap.size ≤ g ∧ g < w'.heap.size) A (s.map I64) ∧ Q w w' ∧ s.length ≤ c ∧ (A = none → c = 0)
theorem ruleOk_nat {l m b : Int} {p : Nat} (h : RuleOk l m b p) : ∃ ru : Rl, ru.Right ∧ l = ru.least ∧ m = ru.most ∧ b = ru.bits ∧ p = ru.m ∧ (⟨l.toNat, m.toNat, b.toNat, p⟩ : Rl) = ru := by
  obtain ⟨h1, h2, h3, h4, h5, h6⟩ := h
  exact ⟨⟨l.toNat, m.toNat, b.toNat, p⟩, ⟨by simp only; omega, by simp only; omega, by simp only; omega, by simp only; omega, by simp only; omega, h6⟩, by simp only; omega, by simp only; omega, by simp only; omega, rfl, rfl⟩
theorem own_cap {w : World} {base : Nat} {e : TypeId} {n m c : Nat} {A : Option Addr} {xs : List Value} (h : w.ownsRow base e 1 (.slice A m c) n xs) : m ≤ c ∧ m = n := by
  rcases h.2 with ⟨h1, h2⟩ | ⟨g, cap, cur, h1, _, _, h2, _⟩
  · injection h1 with _ h3 h4
    subst h3 h4
    exact ⟨Nat.le_refl _, h2.symm⟩
  · injection h1 with _ h3 h4
    subst h3 h4
    exact ⟨h2, rfl⟩
theorem own_nil {w : World} {base : Nat} {e : TypeId} {n m c : Nat} {A : Option Addr} {xs : List Value} (h : w.ownsRow base e 1 (.slice A m c) n xs) : A = none → c = 0 := by
  rcases h.2 with ⟨h1, h2⟩ | ⟨g, cap, cur, h1, _⟩
  · injection h1 with _ _ h4
    exact fun _ => h4
  · injection h1 with h2 _ _
    intro h; rw [h] at h2; cases h2
theorem sizes_any (l m b : Int) (p : Nat) (A : Option Addr) (c : Nat) (x : List Nat) (w : World) (hp : p ≤ 18446744073709551615) (hs : SeesP w (· < w.heap.size) A (x.map B8)) (hx : ∀ y ∈ x, y ≤ 255) (hl : x.length ≤ 1000000) :
    Calls Try.prog 19 #[ruleV l m b p, .slice A x.length c] w (SzOut w (szOf l m b p x) (erOf l m b p)) := by
  by_cases h : RuleOk l m b p
  · unfold szOf erOf
    rw [if_pos h, if_pos h]
    obtain ⟨ru, hr, rfl, rfl, rfl, rfl, he⟩ := ruleOk_nat h
    rw [he]
    refine (sizes_ok ru A c x w hr hp hs hx hl).mono fun e w' ⟨v, h1, h2, h3⟩ => ?_
    obtain ⟨A', c', rfl⟩ := own_form h2
    exact ⟨A', c', h1, sees_own h2, h3, (own_cap h2).1, own_nil h2⟩
  · unfold szOf erOf
    rw [if_neg h, if_neg h]
    exact (sizes_bad l m b p A x.length c w hp h).mono fun e w' ⟨h1, h2⟩ => ⟨none, 0, h1, SeesP.nil _ _ _, h2, Nat.le_refl _, fun _ => rfl⟩
theorem docSizes_any (l m b : Int) (p : Nat) (A : Option Addr) (c : Nat) (ok : Nat → Prop) (x : List Nat) (w : World) (hp : p ≤ 18446744073709551615) (hs : SeesP w ok A (x.map B8)) (hok : ∀ g, ok g → g < w.heap.size) (hx : ∀ y ∈ x, y ≤ 255) (hl : x.length ≤ 1000000) (hlc : x.length ≤ c) (hcm : c ≤ 9223372036854775807) :
    Calls Try.prog 20 #[ruleV l m b p, .slice A x.length c] w (SzOut w (szOf l m b p x) (erOf l m b p)) := by
  by_cases h : RuleOk l m b p
  · unfold szOf erOf
    rw [if_pos h, if_pos h]
    obtain ⟨ru, hr, rfl, rfl, rfl, rfl, he⟩ := ruleOk_nat h
    rw [he]
    refine (docSizes_ok ru A c ok x w hr hp hs hok hx hl hlc hcm).mono fun e w' ⟨v, h1, h2, h3⟩ => ?_
    obtain ⟨A', c', rfl⟩ := own_form h2
    exact ⟨A', c', h1, sees_own h2, h3, (own_cap h2).1, own_nil h2⟩
  · unfold szOf erOf
    rw [if_neg h, if_neg h]
    exact (docSizes_bad l m b p A x.length c w hp h).mono fun e w' ⟨h1, h2⟩ => ⟨none, 0, h1, SeesP.nil _ _ _, h2, Nat.le_refl _, fun _ => rfl⟩
theorem szOf_len (l m b : Int) (p : Nat) (x : List Nat) : (szOf l m b p x).length ≤ x.length := by
  unfold szOf
  split
  · unfold Rl.sizes Rl.pieces
    rename_i h
    obtain ⟨ru, hr, h1, h2, h3, h4, he⟩ := ruleOk_nat h
    rw [he, List.length_map, List.length_append]
    have hc := ru.feed_count x []
    split
    · simpa using hc
    · rename_i hne
      have hj := congrArg List.length (ru.feed_join x [])
      rw [List.length_append, List.nil_append] at hj
      have hpos := List.length_pos_iff.2 hne
      have hw := (ru.feed_whole x [] ru.open_nil).1
      have hle : (ru.feed [] x).1.length ≤ (ru.feed [] x).1.flatten.length := by
        generalize (ru.feed [] x).1 = o at *
        clear hj hc hpos hne
        induction o with
        | nil => simp
        | cons q o ih =>
          have h1 := (hw q (List.mem_cons_self ..)).some
          have h2 := List.length_pos_iff.2 h1
          have h3 := ih (fun q' hq => hw q' (List.mem_cons_of_mem _ hq))
          simp only [List.length_cons, List.flatten_cons, List.length_append]
          omega
      simp; omega
  · simp

/-- A rule lies in block g. -/
structure RuleAt (w : World) (g : Nat) (l m b : Int) (p : Nat) : Prop where
  c0 : w.cell? ⟨g, 0, none⟩ = some (.int .i64 l)
  c1 : w.cell? ⟨g, 1, none⟩ = some (.int .i64 m)
  c2 : w.cell? ⟨g, 2, none⟩ = some (.int .i64 b)
  c3 : w.cell? ⟨g, 3, none⟩ = some (.int .u64 (p : Int))
  f0 : w.frozen? ⟨g, 0, none⟩ = false
  f1 : w.frozen? ⟨g, 1, none⟩ = false
  f2 : w.frozen? ⟨g, 2, none⟩ = false
  f3 : w.frozen? ⟨g, 3, none⟩ = false
theorem RuleAt.q {w w' : World} {g : Nat} {l m b : Int} {p : Nat} (h : RuleAt w g l m b p) (hq : Q w w') (hg : g < w.heap.size) : RuleAt w' g l m b p :=
  ⟨(hq.cell (p := ⟨g, 0, none⟩) hg).trans h.c0, (hq.cell (p := ⟨g, 1, none⟩) hg).trans h.c1, (hq.cell (p := ⟨g, 2, none⟩) hg).trans h.c2, (hq.cell (p := ⟨g, 3, none⟩) hg).trans h.c3,
    (hq.frozen (p := ⟨g, 0, none⟩) hg).trans h.f0, (hq.frozen (p := ⟨g, 1, none⟩) hg).trans h.f1, (hq.frozen (p := ⟨g, 2, none⟩) hg).trans h.f2, (hq.frozen (p := ⟨g, 3, none⟩) hg).trans h.f3⟩
theorem RuleAt.new (w : World) (l m b : Int) (p : Nat) (t : TypeId) : RuleAt (w.alloc (.cells #[.int .i64 l, .int .i64 m, .int .i64 b, .int .u64 (p : Int)] t)) w.heap.size l m b p := by
  constructor <;> go_simp
theorem RuleAt.set {w : World} {g : Nat} {l m b : Int} {p : Nat} (h : RuleAt w g l m b p) (l' m' b' : Int) (p' : Nat) :
    RuleAt ((((w.setCell ⟨g, 0, none⟩ (.int .i64 l')).setCell ⟨g, 1, none⟩ (.int .i64 m')).setCell ⟨g, 2, none⟩ (.int .i64 b')).setCell ⟨g, 3, none⟩ (.int .u64 (p' : Int))) g l' m' b' p' := by
  obtain ⟨h0, h1, h2, h3, g0, g1, g2, g3⟩ := h
  constructor <;> go_simp
theorem Q.set4 {w w' : World} {g : Nat} (h : Q w w') (hg : w.heap.size ≤ g) (a b c d : Value) : Q w ((((w'.setCell ⟨g, 0, none⟩ a).setCell ⟨g, 1, none⟩ b).setCell ⟨g, 2, none⟩ c).setCell ⟨g, 3, none⟩ d) :=
  (((h.setNew hg _).setNew hg _).setNew hg _).setNew hg _

/-- A rule in the box, and the laws' rounds over it. -/
def BoxWay (w wr : World) (l m b : Int) (p : Nat) : Prop := RuleAt wr w.heap.size l m b p ∧ p ≤ 18446744073709551615 ∧ Q w wr ∧ w.heap.size < wr.heap.size

set_option maxHeartbeats 16000000 in
set_option maxRecDepth 100000 in
theorem cutSizes_walk (l m b : Int) (p n c K : Nat) (A : Option Addr) (x : List Nat) (w : World) (hp : p ≤ 18446744073709551615) (hs : SeesP w (· < w.heap.size) A (x.map B8)) (hK : K = min n 2500) (hlk : x.length = K) (hx : ∀ y ∈ x, y ≤ 255) (hnc : n ≤ c) (hcm : c ≤ 9223372036854775807) :
    Calls Try.prog 3 #[ruleV l m b p, .slice A n c] w fun e w' => e = .returned (.bool true) ∧ Q w w' := by
  have hby := Lib.hid (fun w' => lawBytes A n c w' hnc hcm)
  rw [← hK] at hby
  have hKc : K ≤ c := by omega
  have hK1 : K ≤ 2500 := by omega
  have HS := Lib.hid hs
  have HX := Lib.hid hx
  have HL := Lib.hid hlk
  have hto := Lib.hid (fun l m b p w' => lawTo l m b p w')
  have hnb := Lib.hid (fun h w' => newKnife_bad l m b p w' hp h)
  have hno := Lib.hid (fun ru h1 h2 w' => newKnife_ok ru w' h1 h2)
  have hri := Lib.hid (fun w' => refRight_nat l m b p w' hp)
  have HR := Lib.hid (fun t => RuleAt.new w l m b p t)
  clear hs hx hlk hK
  by_cases hok : RuleOk l m b p
  · rw [decide_eq_true hok] at hri
    obtain ⟨ru, hr1, e1, e2, e3, e4, _⟩ := ruleOk_nat hok
    have HNEW : Hid (∀ w', Calls Try.prog 11 #[ruleV l m b p] w' (MadeKnife w' ru)) := fun w' => by
      rw [e1, e2, e3, e4]; exact hno.out ru hr1 (by rw [← e4]; exact hp) w'
    clear e1 e2 e3 e4 hnb hno hok hr1
    unfold ruleV at hto HNEW hri ⊢
    go_enter Try.func3, Try.ntmps3
    go_wp2_with (first
      | (go_at_call 10; (with_reducible refine (hby.out _).mono ?_); rintro e w1 ⟨rfl, rfl⟩)
      | (go_at_call 12; (with_reducible refine (hto.out _ _ _ _ _).mono ?_); rintro e w2 ⟨rfl, hq2⟩)
      | (go_at_call 11; (with_reducible refine (HNEW.out _).mono ?_); rintro e w3 ⟨kn, r, lb, rfl, hk3, hq3⟩; clear hk3; have hQ3 : Q (w.alloc _) w3 := hq2.step hq3; clear hq2 hq3; have HR3 := (HR.out _).q hQ3 (by simp); have c0 := HR3.c0; have c1 := HR3.c1; have c2 := HR3.c2; have c3 := HR3.c3; have HR3 := Lib.hid HR3)
      | (go_at_call 13; (with_reducible refine (noKnife _).mono ?_); rintro e w4 ⟨rfl, rfl⟩)
      | (go_at_call 14; (with_reducible refine (end_nil _).mono ?_); rintro e w4 ⟨rfl, rfl⟩)
      | (go_at_call 17; (with_reducible refine (feed_nil _ _ _ _).mono ?_); rintro e w4 ⟨rfl, rfl⟩)
      | (go_at_call 15; (with_reducible refine (lawCuts _).mono ?_); rintro e w5 ⟨rfl, hq5⟩; have hQ5 := hQ3.step hq5; have HR5 := HR3.out.q hq5 (Nat.lt_of_lt_of_le (by simp) hQ3.size); clear c0 c1 c2 c3 hq5; have c0 := HR5.c0; have c1 := HR5.c1; have c2 := HR5.c2; have c3 := HR5.c3; have HR5 := Lib.hid HR5)
      | (go_at_call 16; (with_reducible refine (hri.out _).mono ?_); rintro e w6 ⟨rfl, hq6⟩; have hQ6 := hQ5.step hq6; have HR6 := Lib.hid (HR5.out.q hq6 (Nat.lt_of_lt_of_le (by simp) hQ5.size)); clear c0 c1 c2 c3 hq6))
    have HB0 : Hid (∀ o, BoxWay w (w6.alloc o) l m b p) := fun o => ⟨HR6.out.q ((Q.refl w6).alloc o) (Nat.lt_of_lt_of_le (by simp) hQ6.size), hp, (((Q.refl w).alloc _).step hQ6).alloc o, Nat.lt_of_lt_of_le (Nat.lt_of_lt_of_le (by simp) hQ6.size) (by simp)⟩
    have hta := Lib.hid (fun l m b p w' hp => lawTame l m b p w' hp)
    have HSZ : Hid (∀ l m b p w', p ≤ 18446744073709551615 → Q w w' → Calls Try.prog 19 #[ruleV l m b p, .slice A K c] w' (SzOut w' (szOf l m b p x) (erOf l m b p))) := fun l m b p w' hp hq => by
      have h := sizes_any l m b p A c x w' hp ((HS.out.below hq).more (fun g hg => Nat.lt_of_lt_of_le hg hq.size)) HX.out (by rw [HL.out]; omega)
      rw [HL.out] at h; exact h
    have HDZ : Hid (∀ l m b p w', p ≤ 18446744073709551615 → Q w w' → Calls Try.prog 20 #[ruleV l m b p, .slice A K c] w' (SzOut w' (szOf l m b p x) (erOf l m b p))) := fun l m b p w' hp hq => by
      have h := docSizes_any l m b p A c (· < w.heap.size) x w' hp (HS.out.below hq) (fun g hg => Nat.lt_of_lt_of_le hg hq.size) HX.out (by rw [HL.out]; omega) (by rw [HL.out]; omega) hcm
      rw [HL.out] at h; exact h
    have HSL : Hid (∀ l m b p, (szOf l m b p x).length ≤ 2500) := fun l m b p => by have := szOf_len l m b p x; rw [HL.out] at this; omega
    unfold ruleV at HSZ HDZ hta
    go_loopw [9] (fun i wr => ∃ k : Nat, k ≤ 2 ∧ i = .int .i64 k ∧ ∃ l' m' b' p', Hid (BoxWay w wr l' m' b' p')) (fun i _ => 2 - (intOf i).toNat)
    case atStart => exact ⟨0, by omega, rfl, l, m, b, p, HB0.out _⟩
    case round =>
      obtain ⟨k, hk, rfl, l', m', b', p', HB⟩ := hrel
      obtain ⟨hRr, hp', hq, hlt⟩ := HB.out
      have c0 := hRr.c0
      have c1 := hRr.c1
      have c2 := hRr.c2
      have c3 := hRr.c3
      have HRr := Lib.hid hRr
      clear hRr HB
      by_cases hk0 : k = 0
      · subst hk0
        have hPP := hp'
        obtain ⟨ns, hls⟩ : ∃ ns, ns = (szOf l' m' b' p' x).length := ⟨_, rfl⟩
        have HLS := Lib.hid hls
        have hns : ns ≤ 2500 := by rw [hls]; exact HSL.out _ _ _ _
        clear hls
        go_wp2_with (first
          | (go_at_call 18; go_loud ((with_reducible refine (hta.out _ _ _ _ _ hp').mono ?_); rintro e w8 ⟨rfl, hq8⟩; have hQ8 := hq.step hq8; have hlt8 := Nat.lt_of_lt_of_le hlt hq8.size; have HR8 := HRr.out.q hq8 hlt; have f0 := HR8.f0; have f1 := HR8.f1; have f2 := HR8.f2; have f3 := HR8.f3; have d0 := HR8.c0; have d1 := HR8.c1; have d2 := HR8.c2; have d3 := HR8.c3; have HR8 := Lib.hid HR8; clear hq8))
          | (go_at_call 12; go_loud ((with_reducible refine (hto.out _ _ _ _ _).mono ?_); rintro e w9 ⟨rfl, hq9⟩; have hQ9 := hq.step hq9; have hlt9 := Nat.lt_of_lt_of_le hlt hq9.size; have HR9 := Lib.hid (HRr.out.q hq9 hlt); clear hq9 c0 c1 c2 c3))
          | (go_at_call 19; go_loud ((with_reducible refine (HSZ.out _ _ _ _ _ hPP hQ9).mono ?_); rintro e wa ⟨A1, z1, rfl, hs1, hqa, hz1⟩; have hQa := hQ9.step hqa; have HRa := HR9.out.q hqa hlt9; have c0 := HRa.c0; have c1 := HRa.c1; have c2 := HRa.c2; have c3 := HRa.c3; have HRa := Lib.hid HRa; have hlta := Nat.lt_of_lt_of_le hlt9 hqa.size; have HS1 := Lib.hid hs1; clear hs1 hqa hz1))
          | (go_at_call 20; go_loud ((with_reducible refine (HDZ.out _ _ _ _ _ hPP hQa).mono ?_); rintro e wb ⟨A2, z2, rfl, hs2, hqb, hz2⟩; have hQb := hQa.step hqb; have HRb := HRa.out.q hqb hlta; have hltb := Nat.lt_of_lt_of_le hlta hqb.size; clear c0 c1 c2 c3; have HINT := Lib.hid (ints_nat A1 A2 z1 z2 _ _ _ _ wb (HS1.out.belowP (fun _ h => h.2) hqb) hs2 (by rw [← HLS.out]; omega) (by rw [← HLS.out]; omega)); rw [← HLS.out] at HINT; rw [decide_eq_true rfl] at HINT; have HRb := Lib.hid HRb; clear hs2 hqb hz2; rw [← HLS.out]))
          | (go_at_call 21; go_loud ((with_reducible refine HINT.out.mono ?_); rintro e wc ⟨rfl, hqc⟩; have hQc := hQb.step hqc; have HRc := Lib.hid (HRb.out.q hqc hltb); have hltc := Nat.lt_of_lt_of_le hltb hqc.size; clear hqc)))
        go_roundw
        case rel => exact ⟨1, by omega, rfl, l', m', b', p', HRc.out, hPP, hQc, hltc⟩
        case measure => simp [intOf]
      · by_cases hk1 : k = 1
        · subst hk1
          have hPP := tame_le l' m' b' p' hp'
          obtain ⟨ns, hls⟩ : ∃ ns, ns = (szOf (tameR l' m' b' p').least (tameR l' m' b' p').most (tameR l' m' b' p').bits (tameR l' m' b' p').m x).length := ⟨_, rfl⟩
          have HLS := Lib.hid hls
          have hns : ns ≤ 2500 := by rw [hls]; exact HSL.out _ _ _ _
          clear hls
          go_wp2_with (first
            | (go_at_call 18; go_loud ((with_reducible refine (hta.out _ _ _ _ _ hp').mono ?_); rintro e w8 ⟨rfl, hq8⟩; have hQ8 := hq.step hq8; have hlt8 := Nat.lt_of_lt_of_le hlt hq8.size; have HR8 := HRr.out.q hq8 hlt; have f0 := HR8.f0; have f1 := HR8.f1; have f2 := HR8.f2; have f3 := HR8.f3; have d0 := HR8.c0; have d1 := HR8.c1; have d2 := HR8.c2; have d3 := HR8.c3; have HR8 := Lib.hid HR8; clear hq8))
            | (go_at_call 12; go_loud ((with_reducible refine (hto.out _ _ _ _ _).mono ?_); rintro e w9 ⟨rfl, hq9⟩; have hQ9 := (Q.set4 hQ8 (Nat.le_refl _) _ _ _ _).step hq9; have hlt9 : w.heap.size < w9.heap.size := Nat.lt_of_lt_of_le (by simp [World.setCell]; exact hlt8) hq9.size; have HR9 := Lib.hid ((HR8.out.set _ _ _ _).q hq9 (by simp [World.setCell]; exact hlt8)); clear hq9 c0 c1 c2 c3 d0 d1 d2 d3 f0 f1 f2 f3))
            | (go_at_call 19; go_loud ((with_reducible refine (HSZ.out _ _ _ _ _ hPP hQ9).mono ?_); rintro e wa ⟨A1, z1, rfl, hs1, hqa, hz1⟩; have hQa := hQ9.step hqa; have HRa := HR9.out.q hqa hlt9; have c0 := HRa.c0; have c1 := HRa.c1; have c2 := HRa.c2; have c3 := HRa.c3; have HRa := Lib.hid HRa; have hlta := Nat.lt_of_lt_of_le hlt9 hqa.size; have HS1 := Lib.hid hs1; clear hs1 hqa hz1))
            | (go_at_call 20; go_loud ((with_reducible refine (HDZ.out _ _ _ _ _ hPP hQa).mono ?_); rintro e wb ⟨A2, z2, rfl, hs2, hqb, hz2⟩; have hQb := hQa.step hqb; have HRb := HRa.out.q hqb hlta; have hltb := Nat.lt_of_lt_of_le hlta hqb.size; clear c0 c1 c2 c3; have HINT := Lib.hid (ints_nat A1 A2 z1 z2 _ _ _ _ wb (HS1.out.belowP (fun _ h => h.2) hqb) hs2 (by rw [← HLS.out]; omega) (by rw [← HLS.out]; omega)); rw [← HLS.out] at HINT; rw [decide_eq_true rfl] at HINT; have HRb := Lib.hid HRb; clear hs2 hqb hz2; rw [← HLS.out]))
            | (go_at_call 21; go_loud ((with_reducible refine HINT.out.mono ?_); rintro e wc ⟨rfl, hqc⟩; have hQc := hQb.step hqc; have HRc := Lib.hid (HRb.out.q hqc hltb); have hltc := Nat.lt_of_lt_of_le hltb hqc.size; clear hqc)))
          go_roundw
          case rel => exact ⟨2, by omega, rfl, _, _, _, _, HRc.out, hPP, hQc, hltc⟩
          case measure => simp [intOf]
        · obtain rfl : k = 2 := by omega
          clear c0 c1 c2 c3 HRr
          go_wp2_with fail
          go_ret
          exact ⟨rfl, hq⟩

  · rw [decide_eq_false hok] at hri
    have HNEW : Hid (∀ w', Calls Try.prog 11 #[ruleV l m b p] w' fun e w'' => e = .returned (.tuple #[.pointer none, .int .i64 1]) ∧ Q w' w'') := fun w' => hnb.out hok w'
    clear hnb hno hok
    unfold ruleV at hto HNEW hri ⊢
    go_enter Try.func3, Try.ntmps3
    go_wp2_with (first
      | (go_at_call 10; (with_reducible refine (hby.out _).mono ?_); rintro e w1 ⟨rfl, rfl⟩)
      | (go_at_call 12; (with_reducible refine (hto.out _ _ _ _ _).mono ?_); rintro e w2 ⟨rfl, hq2⟩)
      | (go_at_call 11; (with_reducible refine (HNEW.out _).mono ?_); rintro e w3 ⟨rfl, hq3⟩; have hQ3 : Q (w.alloc _) w3 := hq2.step hq3; clear hq2 hq3; have HR3 := (HR.out _).q hQ3 (by simp); have c0 := HR3.c0; have c1 := HR3.c1; have c2 := HR3.c2; have c3 := HR3.c3; have HR3 := Lib.hid HR3)
      | (go_at_call 13; (with_reducible refine (noKnife _).mono ?_); rintro e w4 ⟨rfl, rfl⟩)
      | (go_at_call 14; (with_reducible refine (end_nil _).mono ?_); rintro e w4 ⟨rfl, rfl⟩)
      | (go_at_call 17; (with_reducible refine (feed_nil _ _ _ _).mono ?_); rintro e w4 ⟨rfl, rfl⟩)
      | (go_at_call 15; (with_reducible refine (lawCuts _).mono ?_); rintro e w5 ⟨rfl, hq5⟩; have hQ5 := hQ3.step hq5; have HR5 := HR3.out.q hq5 (Nat.lt_of_lt_of_le (by simp) hQ3.size); clear c0 c1 c2 c3 hq5; have c0 := HR5.c0; have c1 := HR5.c1; have c2 := HR5.c2; have c3 := HR5.c3; have HR5 := Lib.hid HR5)
      | (go_at_call 16; (with_reducible refine (hri.out _).mono ?_); rintro e w6 ⟨rfl, hq6⟩; have hQ6 := hQ5.step hq6; have HR6 := Lib.hid (HR5.out.q hq6 (Nat.lt_of_lt_of_le (by simp) hQ5.size)); clear c0 c1 c2 c3 hq6))
    have HB0 : Hid (∀ o, BoxWay w (w6.alloc o) l m b p) := fun o => ⟨HR6.out.q ((Q.refl w6).alloc o) (Nat.lt_of_lt_of_le (by simp) hQ6.size), hp, (((Q.refl w).alloc _).step hQ6).alloc o, Nat.lt_of_lt_of_le (Nat.lt_of_lt_of_le (by simp) hQ6.size) (by simp)⟩
    have hta := Lib.hid (fun l m b p w' hp => lawTame l m b p w' hp)
    have HSZ : Hid (∀ l m b p w', p ≤ 18446744073709551615 → Q w w' → Calls Try.prog 19 #[ruleV l m b p, .slice A K c] w' (SzOut w' (szOf l m b p x) (erOf l m b p))) := fun l m b p w' hp hq => by
      have h := sizes_any l m b p A c x w' hp ((HS.out.below hq).more (fun g hg => Nat.lt_of_lt_of_le hg hq.size)) HX.out (by rw [HL.out]; omega)
      rw [HL.out] at h; exact h
    have HDZ : Hid (∀ l m b p w', p ≤ 18446744073709551615 → Q w w' → Calls Try.prog 20 #[ruleV l m b p, .slice A K c] w' (SzOut w' (szOf l m b p x) (erOf l m b p))) := fun l m b p w' hp hq => by
      have h := docSizes_any l m b p A c (· < w.heap.size) x w' hp (HS.out.below hq) (fun g hg => Nat.lt_of_lt_of_le hg hq.size) HX.out (by rw [HL.out]; omega) (by rw [HL.out]; omega) hcm
      rw [HL.out] at h; exact h
    have HSL : Hid (∀ l m b p, (szOf l m b p x).length ≤ 2500) := fun l m b p => by have := szOf_len l m b p x; rw [HL.out] at this; omega
    unfold ruleV at HSZ HDZ hta
    go_loopw [9] (fun i wr => ∃ k : Nat, k ≤ 2 ∧ i = .int .i64 k ∧ ∃ l' m' b' p', Hid (BoxWay w wr l' m' b' p')) (fun i _ => 2 - (intOf i).toNat)
    case atStart => exact ⟨0, by omega, rfl, l, m, b, p, HB0.out _⟩
    case round =>
      obtain ⟨k, hk, rfl, l', m', b', p', HB⟩ := hrel
      obtain ⟨hRr, hp', hq, hlt⟩ := HB.out
      have c0 := hRr.c0
      have c1 := hRr.c1
      have c2 := hRr.c2
      have c3 := hRr.c3
      have HRr := Lib.hid hRr
      clear hRr HB
      by_cases hk0 : k = 0
      · subst hk0
        have hPP := hp'
        obtain ⟨ns, hls⟩ : ∃ ns, ns = (szOf l' m' b' p' x).length := ⟨_, rfl⟩
        have HLS := Lib.hid hls
        have hns : ns ≤ 2500 := by rw [hls]; exact HSL.out _ _ _ _
        clear hls
        go_wp2_with (first
          | (go_at_call 18; go_loud ((with_reducible refine (hta.out _ _ _ _ _ hp').mono ?_); rintro e w8 ⟨rfl, hq8⟩; have hQ8 := hq.step hq8; have hlt8 := Nat.lt_of_lt_of_le hlt hq8.size; have HR8 := HRr.out.q hq8 hlt; have f0 := HR8.f0; have f1 := HR8.f1; have f2 := HR8.f2; have f3 := HR8.f3; have d0 := HR8.c0; have d1 := HR8.c1; have d2 := HR8.c2; have d3 := HR8.c3; have HR8 := Lib.hid HR8; clear hq8))
          | (go_at_call 12; go_loud ((with_reducible refine (hto.out _ _ _ _ _).mono ?_); rintro e w9 ⟨rfl, hq9⟩; have hQ9 := hq.step hq9; have hlt9 := Nat.lt_of_lt_of_le hlt hq9.size; have HR9 := Lib.hid (HRr.out.q hq9 hlt); clear hq9 c0 c1 c2 c3))
          | (go_at_call 19; go_loud ((with_reducible refine (HSZ.out _ _ _ _ _ hPP hQ9).mono ?_); rintro e wa ⟨A1, z1, rfl, hs1, hqa, hz1⟩; have hQa := hQ9.step hqa; have HRa := HR9.out.q hqa hlt9; have c0 := HRa.c0; have c1 := HRa.c1; have c2 := HRa.c2; have c3 := HRa.c3; have HRa := Lib.hid HRa; have hlta := Nat.lt_of_lt_of_le hlt9 hqa.size; have HS1 := Lib.hid hs1; clear hs1 hqa hz1))
          | (go_at_call 20; go_loud ((with_reducible refine (HDZ.out _ _ _ _ _ hPP hQa).mono ?_); rintro e wb ⟨A2, z2, rfl, hs2, hqb, hz2⟩; have hQb := hQa.step hqb; have HRb := HRa.out.q hqb hlta; have hltb := Nat.lt_of_lt_of_le hlta hqb.size; clear c0 c1 c2 c3; have HINT := Lib.hid (ints_nat A1 A2 z1 z2 _ _ _ _ wb (HS1.out.belowP (fun _ h => h.2) hqb) hs2 (by rw [← HLS.out]; omega) (by rw [← HLS.out]; omega)); rw [← HLS.out] at HINT; rw [decide_eq_true rfl] at HINT; have HRb := Lib.hid HRb; clear hs2 hqb hz2; rw [← HLS.out]))
          | (go_at_call 21; go_loud ((with_reducible refine HINT.out.mono ?_); rintro e wc ⟨rfl, hqc⟩; have hQc := hQb.step hqc; have HRc := Lib.hid (HRb.out.q hqc hltb); have hltc := Nat.lt_of_lt_of_le hltb hqc.size; clear hqc)))
        go_roundw
        case rel => exact ⟨1, by omega, rfl, l', m', b', p', HRc.out, hPP, hQc, hltc⟩
        case measure => simp [intOf]
      · by_cases hk1 : k = 1
        · subst hk1
          have hPP := tame_le l' m' b' p' hp'
          obtain ⟨ns, hls⟩ : ∃ ns, ns = (szOf (tameR l' m' b' p').least (tameR l' m' b' p').most (tameR l' m' b' p').bits (tameR l' m' b' p').m x).length := ⟨_, rfl⟩
          have HLS := Lib.hid hls
          have hns : ns ≤ 2500 := by rw [hls]; exact HSL.out _ _ _ _
          clear hls
          go_wp2_with (first
            | (go_at_call 18; go_loud ((with_reducible refine (hta.out _ _ _ _ _ hp').mono ?_); rintro e w8 ⟨rfl, hq8⟩; have hQ8 := hq.step hq8; have hlt8 := Nat.lt_of_lt_of_le hlt hq8.size; have HR8 := HRr.out.q hq8 hlt; have f0 := HR8.f0; have f1 := HR8.f1; have f2 := HR8.f2; have f3 := HR8.f3; have d0 := HR8.c0; have d1 := HR8.c1; have d2 := HR8.c2; have d3 := HR8.c3; have HR8 := Lib.hid HR8; clear hq8))
            | (go_at_call 12; go_loud ((with_reducible refine (hto.out _ _ _ _ _).mono ?_); rintro e w9 ⟨rfl, hq9⟩; have hQ9 := (Q.set4 hQ8 (Nat.le_refl _) _ _ _ _).step hq9; have hlt9 : w.heap.size < w9.heap.size := Nat.lt_of_lt_of_le (by simp [World.setCell]; exact hlt8) hq9.size; have HR9 := Lib.hid ((HR8.out.set _ _ _ _).q hq9 (by simp [World.setCell]; exact hlt8)); clear hq9 c0 c1 c2 c3 d0 d1 d2 d3 f0 f1 f2 f3))
            | (go_at_call 19; go_loud ((with_reducible refine (HSZ.out _ _ _ _ _ hPP hQ9).mono ?_); rintro e wa ⟨A1, z1, rfl, hs1, hqa, hz1⟩; have hQa := hQ9.step hqa; have HRa := HR9.out.q hqa hlt9; have c0 := HRa.c0; have c1 := HRa.c1; have c2 := HRa.c2; have c3 := HRa.c3; have HRa := Lib.hid HRa; have hlta := Nat.lt_of_lt_of_le hlt9 hqa.size; have HS1 := Lib.hid hs1; clear hs1 hqa hz1))
            | (go_at_call 20; go_loud ((with_reducible refine (HDZ.out _ _ _ _ _ hPP hQa).mono ?_); rintro e wb ⟨A2, z2, rfl, hs2, hqb, hz2⟩; have hQb := hQa.step hqb; have HRb := HRa.out.q hqb hlta; have hltb := Nat.lt_of_lt_of_le hlta hqb.size; clear c0 c1 c2 c3; have HINT := Lib.hid (ints_nat A1 A2 z1 z2 _ _ _ _ wb (HS1.out.belowP (fun _ h => h.2) hqb) hs2 (by rw [← HLS.out]; omega) (by rw [← HLS.out]; omega)); rw [← HLS.out] at HINT; rw [decide_eq_true rfl] at HINT; have HRb := Lib.hid HRb; clear hs2 hqb hz2; rw [← HLS.out]))
            | (go_at_call 21; go_loud ((with_reducible refine HINT.out.mono ?_); rintro e wc ⟨rfl, hqc⟩; have hQc := hQb.step hqc; have HRc := Lib.hid (HRb.out.q hqc hltb); have hltc := Nat.lt_of_lt_of_le hltb hqc.size; clear hqc)))
          go_roundw
          case rel => exact ⟨2, by omega, rfl, _, _, _, _, HRc.out, hPP, hQc, hltc⟩
          case measure => simp [intOf]
        · obtain rfl : k = 2 := by omega
          clear c0 c1 c2 c3 HRr
          go_wp2_with fail
          go_ret
          exact ⟨rfl, hq⟩


theorem cutSizes_true (l : Int) (wl : (Lit.int .i64 l).wf = true) (m : Int) (wm : (Lit.int .i64 m).wf = true) (b : Int) (wb : (Lit.int .i64 b).wf = true) (a : Int) (wa : (Lit.int .u64 a).wf = true) (A : Option Addr) (n c : Nat) (zs : List Int) (w : World) (wA : IsRow .u8 w A n c zs) :
    Calls Try.prog 3 #[.agg #[.int .i64 l, .int .i64 m, .int .i64 b, .int .u64 a], .slice A n c] w fun e w' => e = .returned (.bool true) ∧ Below w.heap.size w w' := by
  obtain ⟨ha, ha'⟩ := wf64 wa
  obtain ⟨p, rfl⟩ := Int.eq_ofNat_of_zero_le ha
  obtain ⟨h1, h2, h3, h4, h5, h6⟩ := row8 wA (min n 2500) (by omega)
  exact cutSizes_walk l m b p n c _ A _ w (by omega) h2 rfl h1 h3 h4 h5
end Go.Proofs.Ytddjccjbbajgaaa
