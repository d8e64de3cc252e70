/- The walk through the law CutNear. -/
import Derived.Test.YtddjccjbbajgaaaCutN
import Derived.Deep.RegionLaw
namespace Go.Proofs.Ytddjccjbbajgaaa
set_option linter.unusedVariables false
set_option linter.unusedSimpArgs false
open Go.RowKit

theorem Rl.near_ahead (r : Rl) (x x' : List Nat) {i k : Nat} (hi : i < (r.sizes x).length) (hk : k < x.length) (hx : x.take k = x'.take k) (ht : (r.sizes x).take i = (r.sizes x').take i)
    (hs : ((r.sizes x).take i).sum + (r.sizes x)[i] ≤ k) : ∃ h : i < (r.sizes x').length, (r.sizes x')[i] = (r.sizes x)[i] ∧ (r.sizes x).take (i + 1) = (r.sizes x').take (i + 1) := by
  have h1 := sum_take_succ (r.sizes x) i hi
  have hne : i + 1 < (r.sizes x).length := by
    rcases Nat.lt_or_ge (i + 1) (r.sizes x).length with h | h
    · exact h
    · have h2 := r.sizes_sum x
      rw [List.take_of_length_le h] at h1
      omega
  have h3 := r.sizes_put x (x'.drop ((r.sizes x).take (i + 1)).sum) hne
  have h4 : x.take ((r.sizes x).take (i + 1)).sum = x'.take ((r.sizes x).take (i + 1)).sum := by
    have h5 := congrArg (List.take ((r.sizes x).take (i + 1)).sum) hx
    rw [List.take_take, List.take_take, Nat.min_eq_left (by omega)] at h5
    exact h5
  rw [h4, List.take_append_drop] at h3
  have h6 : (r.sizes x').take (i + 1) = (r.sizes x).take (i + 1) := by
    rw [h3, List.take_append_of_le_length (by rw [List.length_take]; omega), List.take_take, Nat.min_self]
  have h7 : i < (r.sizes x').length := by
    have := congrArg List.length h6
    rw [List.length_take, List.length_take] at this
    omega
  refine ⟨h7, ?_, h6.symm⟩
  have h8 := congrArg (fun l => l[i]?) h6
  simp only [List.getElem?_take, if_pos (Nat.lt_succ_self i)] at h8
  rw [List.getElem?_eq_getElem h7, List.getElem?_eq_getElem hi] at h8
  exact Option.some.inj h8
theorem Rl.near_behind (r : Rl) (x x' : List Nat) {m n a : Nat} (hm : m < (r.sizes x).length) (hn : n < (r.sizes x').length) (ha : a = ((r.sizes x).take m).sum) (hc : a = ((r.sizes x').take n).sum) (hx : x.drop a = x'.drop a) :
    (r.sizes x).drop m = (r.sizes x').drop n := by
  rw [r.sizes_drop _ hm, r.sizes_drop _ hn, ← ha, ← hc, hx]

/-- A rule in a box, and a row of bytes that is put together. -/
structure BldI (w wr wx : World) (l m b : Int) (p : Nat) (v : Value) (L : List Nat) : Prop where
  r : RuleAt wx w.heap.size l m b p
  q0 : Q w wx
  own : wx.ownsRow wr.heap.size 5 1 v L.length (L.map B8)
  q : Q wr wx
  lt : w.heap.size < wr.heap.size
theorem BldI.step {w wr wx w' : World} {l m b : Int} {p : Nat} {v : Value} {L : List Nat} (h : BldI w wr wx l m b p v L) (hq : Q wx w') : BldI w wr w' l m b p v L :=
  ⟨h.r.q hq (Nat.lt_of_lt_of_le h.lt h.q.size), h.q0.step hq, own_below h.own hq, h.q.step hq, h.lt⟩
theorem BldI.made {w wr wx : World} {l m b : Int} {p : Nat} {v : Value} {L : List Nat} (h : BldI w wr wx l m b p v L) (t : TypeId) (ht : t = 5) : BldI w wr (wx.alloc (.cells #[] t)) l m b p (.slice (some ⟨wx.heap.size, 0, none⟩) 0 0) [] := by
  subst ht
  exact ⟨h.r.q ((Q.refl wx).alloc _) (Nat.lt_of_lt_of_le h.lt h.q.size), h.q0.alloc _, own_mono (own_new wx 5 [] (by simp)) h.q.size, h.q.alloc _, h.lt⟩
theorem RuleAt.below {wx w' : World} {g B : Nat} {l m b : Int} {p : Nat} (h : RuleAt wx g l m b p) (hb : Below B wx w') (h1 : g < B) : RuleAt w' g l m b p := by
  obtain ⟨c0, c1, c2, c3, f0, f1, f2, f3⟩ := h
  exact ⟨(hb.cell (p := ⟨g, 0, none⟩) h1).trans c0, (hb.cell (p := ⟨g, 1, none⟩) h1).trans c1, (hb.cell (p := ⟨g, 2, none⟩) h1).trans c2, (hb.cell (p := ⟨g, 3, none⟩) h1).trans c3,
      (hb.frozen (p := ⟨g, 0, none⟩) h1).trans f0, (hb.frozen (p := ⟨g, 1, none⟩) h1).trans f1, (hb.frozen (p := ⟨g, 2, none⟩) h1).trans f2, (hb.frozen (p := ⟨g, 3, none⟩) h1).trans f3⟩
theorem BldI.grew {w wr wx w' : World} {l m b : Int} {p : Nat} {v v' : Value} {L M : List Nat} (h : BldI w wr wx l m b p v L) (hown : w'.ownsRow wr.heap.size 5 1 v' (L.length + M.length) (L.map B8 ++ M.map B8)) (hg : Grew wx w' v v') : BldI w wr w' l m b p v' (L ++ M) := by
  have hb : Below wr.heap.size wx w' := hg.below (Below.refl _ _) h.own h.q.size
  refine ⟨h.r.below hb h.lt, Below.trans h.q0 (hb.mono (Nat.le_of_lt h.lt)), ?_, Below.trans h.q hb, h.lt⟩
  rw [List.length_append, List.map_append]; exact hown

/-- The row is there, and the box holds the tamed rule. -/
def NearIn (w wr wx : World) (ru : Rl) (K : Nat) (x : List Nat) (v : Value) : Prop :=
  ∃ T z, v = .slice T K z ∧ wx.ownsRow wr.heap.size 5 1 v K (x.map B8) ∧ Tamed w wx ru ∧ w.heap.size < wr.heap.size
theorem BldI.near {w wr wx : World} {l m b : Int} {p K : Nat} {v : Value} {x : List Nat} {ru : Rl} (h : BldI w wr wx l m b p v x) (hK : x.length = K) :
    NearIn w wr ((((wx.setCell ⟨w.heap.size, 0, none⟩ (.int .i64 ru.least)).setCell ⟨w.heap.size, 1, none⟩ (.int .i64 ru.most)).setCell ⟨w.heap.size, 2, none⟩ (.int .i64 ru.bits)).setCell ⟨w.heap.size, 3, none⟩ (.int .u64 (ru.m : Int))) ru K x v := by
  subst hK
  obtain ⟨T, z, hv⟩ := own_form h.own
  refine ⟨T, z, hv, ?_, ⟨h.r.set _ _ _ _, Q.set4 h.q0 (Nat.le_refl _) _ _ _ _, ?_⟩, h.lt⟩
  · exact ownsRow_setCell_below (ownsRow_setCell_below (ownsRow_setCell_below (ownsRow_setCell_below h.own h.lt _) h.lt _) h.lt _) h.lt _
  · simp [World.setCell]; exact Nat.lt_of_lt_of_le h.lt h.q.size

set_option maxHeartbeats 16000000 in
set_option maxRecDepth 100000 in
theorem cutNear_walk (l m b at_ : Int) (p n c K : Nat) (A : Option Addr) (x : List Nat) (w : World) (hp : p ≤ 18446744073709551615) (hs : SeesP w (· < w.heap.size) A (x.map B8)) (hK : K = min n 2500) (hlk : x.length = K) (hx : ∀ y ∈ x, y ≤ 255) (hnc : n ≤ c) (hcm : c ≤ 9223372036854775807) (hA : A = none → c = 0) :
    Calls Try.prog 9 #[ruleV l m b p, .slice A n c, .int .i64 at_] w fun e w' => e = .returned (.bool true) ∧ Q w w' := by
  obtain ⟨i8, hi8, hz80, hz81, hz82⟩ := info_parts info8
  have hby := Lib.hid (fun w' => lawBytes A n c w' hnc hcm)
  rw [← hK] at hby
  have hK1 : K ≤ 2500 := by omega
  have hto := Lib.hid (fun l m b p w' => lawTo l m b p w')
  obtain ⟨ru, hru, hrm, hta⟩ := tame_any l m b p hp
  have hta := Lib.hid hta
  have HSZX : Hid (∀ (T : Option Addr) (n z : Nat) (L : List Nat) (w' : World), L.length = n → SeesP w' (· < w'.heap.size) T (L.map B8) → (∀ y ∈ L, y ≤ 255) → n ≤ 1000000 → Calls Try.prog 19 #[ruleV ru.least ru.most ru.bits ru.m, .slice T n z] w' (SzOut w' (ru.sizes L) 0)) :=
    fun T n z L w' h0 h1 h2 h3 => by subst h0; exact sizes_law ru T z L w' hru hrm h1 h2 h3
  have HS := Lib.hid hs
  have HX := Lib.hid hx
  have HL := Lib.hid hlk
  have HA := Lib.hid hA
  obtain ⟨wr, hwr⟩ : ∃ wr, wr = w.alloc (.cells #[.int .i64 l, .int .i64 m, .int .i64 b, .int .u64 (p : Int)] 24) := ⟨_, rfl⟩
  have HB0 : Hid (BldI w wr wr.drew l m b p (.slice none 0 0) []) := by
    subst hwr
    exact ⟨(RuleAt.new _ _ _ _ _ _).drew, ((Q.refl w).alloc _).drew, World.ownsRow_nil _ _ _ _, (Q.refl _).drew, by simp⟩
  have HR0 : Hid (RuleAt wr w.heap.size l m b p) := by subst hwr; exact RuleAt.new _ _ _ _ _ _
  have HWR := Lib.hid hwr
  clear hs hx hlk hK hA hwr
  unfold ruleV at hto hta HSZX ⊢
  go_enter Try.func9, Try.ntmps9
  go_upto_region 1 with fail
  go_cut [1] (fun bv wx => Hid (NearIn w wr wx ru K x bv))
  case first =>
    rw [← HWR.out]
    have HB := HB0
    have hwlt := HB.out.lt
    have d0 := HR0.out.c0
    have d1 := HR0.out.c1
    have d2 := HR0.out.c2
    have d3 := HR0.out.c3
    go_region_law (first
      | (refine step_append_sees (by rfl) (.tmp 18) (.tmp 20) 25 (by rfl) wr.heap.size 5 i8 _ 1 Try.underlying25 hi8 hz80 hz81 hz82 rfl _ 0 [] (by rfl) (by first | exact (HB.out.made _ rfl).own | exact HB.out.own) (· < w.heap.size) A K c (x.map B8) (by rfl) HA.out (by rw [List.length_map, HL.out]) (by first | exact HS.out.below (HB.out.made _ rfl).q0 | exact HS.out.below HB.out.q0) (B8_one _) (by unfold maxLen; omega) (by omega) (by first | exact (HB.out.made _ rfl).q.size | exact HB.out.q.size) ?_; intro v1 w1 hown1 hgr1; rw [show 0 + K = ([] : List Nat).length + x.length by rw [HL.out]; simp] at hown1; (first | replace HB := Lib.hid ((HB.out.made _ rfl).grew hown1 hgr1) | replace HB := Lib.hid (HB.out.grew hown1 hgr1)); rw [List.nil_append] at HB; have d0 := HB.out.r.c0; have d1 := HB.out.r.c1; have d2 := HB.out.r.c2; have d3 := HB.out.r.c3; have f0 := HB.out.r.f0; have f1 := HB.out.r.f1; have f2 := HB.out.r.f2; have f3 := HB.out.r.f3)
      | (go_simp; go_at_call 10; go_loud ((with_reducible refine (hby.out _).mono ?_); rintro e w1 ⟨rfl, rfl⟩))
      | (go_simp; go_at_call 18; go_loud ((with_reducible refine (hta.out _).mono ?_); rintro e w8 ⟨rfl, hq8⟩; (first | replace HB := Lib.hid (HB.out.step hq8) | replace HB := Lib.hid ((HB.out.made _ rfl).step hq8)); have f0 := HB.out.r.f0; have f1 := HB.out.r.f1; have f2 := HB.out.r.f2; have f3 := HB.out.r.f3; have d0 := HB.out.r.c0; have d1 := HB.out.r.c1; have d2 := HB.out.r.c2; have d3 := HB.out.r.c3)))
    all_goals (go_wp2_with fail; go_meet; exact HB.out.near HL.out)
  case rest =>
    obtain ⟨T, z, rfl, hown, hT, hwlt⟩ := hcut.out
    have HOWN := Lib.hid hown
    have HT := Lib.hid hT
    clear hcut hown hT HB0 HR0
    obtain ⟨wx, hwx⟩ : ∃ wx, wx = wc := ⟨_, rfl⟩
    subst hwx
    by_cases hK0 : K = 0
    · have d : ((K : Int) == 0) = true := by rw [hK0]; rfl
      clear hK0
      go_wp2_with (go_at_call 15; (with_reducible refine (lawCuts _).mono ?_); rintro e w5 ⟨rfl, hq5⟩)
      go_ret
      exact ⟨rfl, HT.out.2.1.step hq5⟩
    · have d : ((K : Int) == 0) = false := beq_eq_false_iff_ne.2 (by omega)
      have hKpos : 1 ≤ K := by omega
      obtain ⟨u, hu, hu'⟩ := wrap_u64 at_
      obtain ⟨k, hk⟩ : ∃ k, k = u % K := ⟨_, rfl⟩
      have hkK : k < K := by rw [hk]; exact Nat.mod_lt _ (by omega)
      have hmod : (u : Int) % (K : Int) = (k : Int) := by rw [hk]; rfl
      have hkl : k < x.length := by rw [HL.out]; exact hkK
      obtain ⟨g, cap, hTf⟩ := Go.Joins.ownsRow_form HOWN.out (by omega)
      injection hTf with hTf1 _ hTf2
      subst hTf1 hTf2
      have hcx : wx.cell? ⟨g, k, none⟩ = some (.int .u8 (x[k] : Int)) := by
        rw [HOWN.out.cellAt k (by omega), List.getElem?_map, List.getElem?_eq_getElem hkl]; rfl
      have hfx : wx.frozen? ⟨g, k, none⟩ = false := HOWN.out.frozenAt k
      have hxk := HX.out x[k] (List.getElem_mem hkl)
      obtain ⟨x8, xl⟩ := xor8 hxk (show 90 ≤ 255 by omega)
      have HX8 : Hid (bits .xor .u8 (x[k] : Int) 90 = ((x[k] ^^^ 90 : Nat) : Int)) := x8
      have hgb : wr.heap.size ≤ g := own_block HOWN.out g rfl
      have d0 := HT.out.1.c0
      have d1 := HT.out.1.c1
      have d2 := HT.out.1.c2
      have d3 := HT.out.1.c3
      have hne1 : w.heap.size ≠ g := by omega
      have hne2 : g ≠ w.heap.size := by omega
      have hglt : g < wx.heap.size := own_lt HOWN.out g rfl
      obtain ⟨y, hy⟩ : ∃ y, y = x[k] ^^^ 90 := ⟨_, rfl⟩
      rw [← hy] at HX8 xl
      obtain ⟨x', hx'⟩ : ∃ x', x' = x.set k y := ⟨_, rfl⟩
      have HX' : Hid (∀ z ∈ x', z ≤ 255) := fun z hz => by
        rw [hx'] at hz
        rcases List.mem_or_eq_of_mem_set hz with h | h
        · exact HX.out z h
        · omega
      have HL' : Hid (x'.length = K) := by show _ = _; rw [hx', List.length_set, HL.out]
      have HTK : Hid (x.take k = x'.take k) := by show _ = _; rw [hx', List.take_set_of_le (Nat.le_refl _)]
      have HDR : Hid (∀ a, k < a → x.drop a = x'.drop a) := fun a ha => by rw [hx', List.drop_set_of_lt ha]
      have HMAP : Hid (x'.map B8 = (x.map B8).set k (.int .u8 (y : Int))) := by show _ = _; rw [hx', List.map_set]; rfl
      have HAH := Lib.hid (fun i h1 h2 h3 h4 => ru.near_ahead x x' (i := i) (k := k) h1 h2 h3 h4)
      have HBH := Lib.hid (fun m n a h1 h2 h3 h4 h5 => ru.near_behind x x' (m := m) (n := n) (a := a) h1 h2 h3 h4 h5)
      have hla : (ru.sizes x).length ≤ 2500 := by have := sizes_len ru hru x; have := HL.out; omega
      have hlb : (ru.sizes x').length ≤ 2500 := by have := sizes_len ru hru x'; have := HL'.out; omega
      have HSA : Hid ((ru.sizes x).sum = K) := by show _ = _; rw [ru.sizes_sum, HL.out]
      have HSB : Hid ((ru.sizes x').sum = K) := by show _ = _; rw [ru.sizes_sum, HL'.out]
      obtain ⟨s, hsz⟩ : ∃ s, s = ru.sizes x := ⟨_, rfl⟩
      obtain ⟨t, htz⟩ : ∃ s, s = ru.sizes x' := ⟨_, rfl⟩
      have HSZ := Lib.hid hsz
      have HTZ := Lib.hid htz
      have HAH : Hid (∀ i, ∀ hi : i < s.length, s.take i = t.take i → (s.take i).sum + s[i] ≤ k → ∃ h : i < t.length, t[i] = s[i] ∧ s.take (i + 1) = t.take (i + 1)) := by
        subst hsz htz
        exact fun i hi h1 h2 => HAH.out i hi hkl HTK.out h1 h2
      have HBH : Hid (∀ m n a, m < s.length → n < t.length → a = (s.take m).sum → a = (t.take n).sum → k < a → s.drop m = t.drop n) := by
        subst hsz htz
        exact fun m n a h1 h2 h3 h4 h5 => HBH.out m n a h1 h2 h3 h4 (HDR.out a h5)
      rw [← hsz] at hla HSA
      rw [← htz] at hlb HSB
      obtain ⟨na, hna⟩ : ∃ ns, ns = s.length := ⟨_, rfl⟩
      obtain ⟨nb, hnb⟩ : ∃ ns, ns = t.length := ⟨_, rfl⟩
      rw [← hna] at hla
      rw [← hnb] at hlb
      have HNA := Lib.hid hna
      have HNB := Lib.hid hnb
      have HXK := Lib.hid hx'
      have HXG : Hid ((x.map B8)[k]? = some (.int .u8 (x[k] : Int))) := by show _ = _; rw [List.getElem?_map, List.getElem?_eq_getElem hkl]; rfl
      clear hsz htz hna hnb hx' hy hcx hfx x8
      generalize x[k] = xk at *
      have HU := Lib.hid hk
      clear hk HXK
      have x8' := HX8.out
      go_wp2_with (first
        | (go_at_call 12; first
            | (have _h := HTs; go_loud ((with_reducible refine (hto.out _ _ _ _ _).mono ?_); rintro e wd ⟨rfl, hq9⟩; have HT2 := Lib.hid ((HTs.out _).step hq9); have HO2 := Lib.hid (own_below (HOs.out) hq9); have HR2 := Lib.hid ((HRs.out _).belowP (fun _ h => by simp [World.setCell]; exact h.2) hq9); have HQ9 := Lib.hid hq9.size; clear d0 d1 d2 d3))
            | ((with_reducible refine (hto.out _ _ _ _ _).mono ?_); rintro e wb ⟨rfl, hq9⟩; replace HT := Lib.hid (HT.out.step hq9); replace HOWN := Lib.hid (own_below HOWN.out hq9); have hgw : g < wb.heap.size := Nat.lt_of_lt_of_le hglt hq9.size; clear d0 d1 d2 d3 hq9))
        | (go_at_call 19; first
            | (have _h := HT2; go_loud ((with_reducible refine (HSZX.out (some ⟨g, 0, none⟩) K z x' _ HL'.out ((sees_own HO2.out).more (fun b hb => hb.2)) HX'.out (by omega)).mono ?_); rintro e we ⟨B2, y2, rfl, hs2, hqa, hy2, _⟩; rw [← HTZ.out] at hs2 hy2 ⊢; rw [← HNB.out] at hy2 ⊢; have HT3 := Lib.hid (HT2.out.step hqa); have HC2 := Lib.hid (hs2.more (fun g h => h.2) : SeesP we (· < we.heap.size) B2 (t.map I64)); have HC1 := Lib.hid (HR2.out.belowP (fun _ h => by have := HQ9.out; simp [World.setCell] at this; omega) hqa); have hcd : wd.heap.size ≤ we.heap.size := hqa.size; clear hs2 hqa))
            | (go_loud ((with_reducible refine (HSZX.out (some ⟨g, 0, none⟩) K z x _ HL.out ((sees_own HOWN.out).more (fun b hb => hb.2)) HX.out (by omega)).mono ?_); rintro e wc ⟨B1, y1, rfl, hs1, hqa, hy1, _⟩; rw [← HSZ.out] at hs1 hy1 ⊢; rw [← HNA.out] at hy1 ⊢; replace HT := Lib.hid (HT.out.step hqa); have hT0 := HT.out; have d0 := hT0.1.c0; have d1 := hT0.1.c1; have d2 := hT0.1.c2; have d3 := hT0.1.c3; clear hT0; have HO := Lib.hid (own_below HOWN.out hqa); have hcx : wc.cell? ⟨g, k, none⟩ = some (.int .u8 (xk : Int)) := (by rw [HO.out.cellAt k (by omega)]; exact HXG.out); have hfx : wc.frozen? ⟨g, k, none⟩ = false := HO.out.frozenAt k; have HTs := Lib.hid (fun u => HT.out.below ((Below.refl wr.heap.size wc).setCell (p := ⟨g, k, none⟩) hgb u) hwlt); have HOs := Lib.hid (HO.out.stored k (.int .u8 (y : Int))).1; rw [← HMAP.out] at HOs; have HRs := Lib.hid (fun u => hs1.setCell (p := ⟨g, k, none⟩) (fun h => by have := h.1; simp at this; omega) u); clear hs1 hqa)))
        | (go_at_call 15; (with_reducible refine (lawCuts _).mono ?_); rintro e w5 ⟨rfl, hq5⟩; have HT5 := Lib.hid (HT3.out.step hq5); have HE1 := Lib.hid (HC1.out.belowP (fun _ h => by have h1 := HQ9.out; simp [World.setCell] at h1; have h2 := h.2; omega) hq5); have HE2 := Lib.hid (HC2.out.belowP (fun _ h => h) hq5); clear hq5))
      have H0 : Hid (0 = (s.take 0).sum ∧ s.take 0 = t.take 0) := ⟨by simp, by simp⟩
      clear HT HT2 HT3 HO2 HR2 HC1 HC2
      go_loopw [12, 13] (fun i a wr => ∃ i' a' : Nat, i' ≤ na ∧ i' ≤ nb ∧ i = .int .i64 i' ∧ a = .int .i64 a' ∧ Hid (a' = (s.take i').sum ∧ s.take i' = t.take i') ∧ ∃ d, wr = w5.drewN d) (fun i _ _ => na - (intOf i).toNat)
      case atStart => exact ⟨0, 0, by omega, by omega, rfl, rfl, H0.out, 0, rfl⟩
      case round =>
        obtain ⟨i, a, hi1, hib, rfl, rfl, HY, dd, rfl⟩ := hrel
        have ha1 : a ≤ 2500 := by rw [HY.out.1]; have := sum_take_le s i; have := HSA.out; omega
        by_cases hlt : i < na
        · have hia' : i < s.length := by rw [← HNA.out]; exact hlt
          obtain ⟨ba, oa, e1, hba, hca⟩ := HE1.out.at_ (k := i) (u := I64 s[i]) (by simp [hia'])
          have HYa := Lib.hid (sum_take_succ s i hia')
          rw [← HY.out.1] at HYa
          have hva : s[i] ≤ 2500 := by have h := HYa.out; have h2 := sum_take_le s (i + 1); have := HSA.out; omega
          subst e1
          unfold I64 at hca
          by_cases hle : a + s[i] ≤ k
          · obtain ⟨hib2, heq, htk⟩ := HAH.out i hia' HY.out.2 (by rw [← HY.out.1]; exact hle)
            have HTK2 := Lib.hid htk
            obtain ⟨bb, ob, e2, hbb, hcb⟩ := HE2.out.at_ (k := i) (u := I64 t[i]) (by simp [hib2])
            rw [heq] at hcb
            unfold I64 at hcb
            subst e2
            have hib3 : i < nb := by rw [HNB.out]; exact hib2
            have n1 : decide (nb ≤ i) = false := decide_eq_false (by omega)
            clear heq htk
            generalize s[i] = va at *
            clear hib2
            go_wp2_with fail
            go_quiet (fail)
            go_wp2
            go_roundw
            case rel => exact ⟨i + 1, a + va, by omega, by omega, by go_num, by go_num, ⟨HYa.out.symm, HTK2.out⟩, _, rfl⟩
            case measure => simp [intOf]; omega
          · generalize s[i] = va at *
            clear HYa
            have hik : i ≤ nb := hib
            have HYc : Hid (a = (s.take i).sum ∧ a = (t.take i).sum) := ⟨HY.out.1, by rw [HY.out.1, HY.out.2]⟩
            go_wp2_with fail
            go_loopw [14, 15, 16, 17] (fun m n a c wr => ∃ m' n' a' c' : Nat, m' ≤ na ∧ n' ≤ nb ∧ m = .int .i64 m' ∧ n = .int .i64 n' ∧ a = .int .i64 a' ∧ c = .int .i64 c' ∧ Hid (a' = (s.take m').sum ∧ c' = (t.take n').sum) ∧ wr = w5.drewN dd) (fun m n _ _ _ => na + nb - (intOf m).toNat - (intOf n).toNat)
            case atStart => exact ⟨i, i, a, a, hi1, hik, rfl, rfl, rfl, rfl, HYc.out, rfl⟩
            case round =>
              obtain ⟨m', n', a', c', hm1, hn1, rfl, rfl, rfl, rfl, HY2, rfl⟩ := hrel
              have ha1 : a' ≤ 2500 := by rw [HY2.out.1]; have := sum_take_le s m'; have := HSA.out; omega
              have hc1 : c' ≤ 2500 := by rw [HY2.out.2]; have := sum_take_le t n'; have := HSB.out; omega
              by_cases hlt2 : m' < na ∧ n' < nb
              · obtain ⟨hma, hnb⟩ := hlt2
                have hma' : m' < s.length := by rw [← HNA.out]; exact hma
                have hnb' : n' < t.length := by rw [← HNB.out]; exact hnb
                obtain ⟨ba, oa, e1, hba, hca⟩ := HE1.out.at_ (k := m') (u := I64 s[m']) (by simp [hma'])
                obtain ⟨bb, ob, e2, hbb, hcb⟩ := HE2.out.at_ (k := n') (u := I64 t[n']) (by simp [hnb'])
                (first | subst e1 | (injection e1 with e1; injection e1 with q1 q2 _; replace q1 := q1.symm; replace q2 := q2.symm; subst q1; subst q2)); (first | subst e2 | (injection e2 with e2; injection e2 with q1 q2 _; replace q1 := q1.symm; replace q2 := q2.symm; subst q1; subst q2))
                have HYa := Lib.hid (sum_take_succ s m' hma')
                have HYd := Lib.hid (sum_take_succ t n' hnb')
                rw [← HY2.out.1] at HYa
                rw [← HY2.out.2] at HYd
                have hva : s[m'] ≤ 2500 := by have h := HYa.out; have h2 := sum_take_le s (m' + 1); have := HSA.out; omega
                have hvd : t[n'] ≤ 2500 := by have h := HYd.out; have h2 := sum_take_le t (n' + 1); have := HSB.out; omega
                generalize s[m'] = va at *
                generalize t[n'] = vd at *
                unfold I64 at hca hcb
                by_cases hall : a' = c' ∧ k < a'
                · obtain ⟨f0, hka⟩ := hall
                  have he : ((a' : Int) == (c' : Int)) = true := beq_iff_eq.2 (by omega)
                  have hdr : Hid (s.drop m' = t.drop n') := HBH.out m' n' a' (by rw [← HNA.out]; exact hma) (by rw [← HNB.out]; exact hnb) HY2.out.1 (by rw [f0]; exact HY2.out.2) hka
                  have hc1' : ¬ y1 = m' := by omega
                  have hc2' : ¬ y2 = n' := by omega
                  have f1 : (0 : Int) ≤ (m' : Int) := Int.natCast_nonneg _
                  have f2 : (0 : Int) ≤ (n' : Int) := Int.natCast_nonneg _
                  have f3 : (m' : Int) ≤ (na : Int) := by omega
                  have f4 : (n' : Int) ≤ (nb : Int) := by omega
                  have f5 : m' ≤ na := by omega
                  have f6 : n' ≤ nb := by omega
                  have HI : Hid (∀ q, Calls Try.prog 21 #[.slice (some ⟨ba, oa + m', none⟩) (na - m') (y1 - m'), .slice (some ⟨bb, ob + n', none⟩) (nb - n') (y2 - n')] (w5.drewN q) fun e w' => e = .returned (.bool true) ∧ Q w5 w') := fun q => by
                    have g1 := (HE1.out.drewN q).cut (c := y1) (l := m') (s := 1) (by rw [List.length_map, ← HNA.out]; omega)
                    have g2 := (HE2.out.drewN q).cut (c := y2) (l := n') (s := 1) (by rw [List.length_map, ← HNB.out]; omega)
                    rw [show cutA (some ⟨ba, oa, none⟩) y1 m' 1 = some ⟨ba, oa + m', none⟩ by unfold cutA; rw [if_neg (by omega), Option.map_some, Nat.mul_one, add_addr], Nat.mul_one, ← List.map_drop] at g1
                    rw [show cutA (some ⟨bb, ob, none⟩) y2 n' 1 = some ⟨bb, ob + n', none⟩ by unfold cutA; rw [if_neg (by omega), Option.map_some, Nat.mul_one, add_addr], Nat.mul_one, ← List.map_drop] at g2
                    have h := ints_nat _ _ (y1 - m') (y2 - n') _ _ (s.drop m') (t.drop n') (w5.drewN q) g1 g2 (by rw [List.length_drop, ← HNA.out]; omega) (by rw [List.length_drop, ← HNB.out]; omega)
                    rw [decide_eq_true hdr.out, List.length_drop, List.length_drop, ← HNA.out, ← HNB.out] at h
                    exact h.mono fun e w' ⟨h1, h2⟩ => ⟨h1, ((Q.refl w5).drewN q).step h2⟩
                  clear hca hcb HYa HYd hdr f0
                  go_wp2_with fail
                  go_region_held3 (fun _ => True) (trivial) ((go_at_call 21; go_loud ((with_reducible refine (HI.out _).mono ?_); rintro e w6 ⟨rfl, hq6⟩)))
                  go_wp2
                  go_ret
                  exact ⟨rfl, HT5.out.2.1.step hq6⟩
                · have hw : (a' < c') ∨ (c' < a') ∨ (((a' : Int) == (c' : Int)) = true ∧ a' ≤ k ∧ a' ≤ c') := by
                    rw [beq_iff_eq]
                    omega
                  clear hall
                  rcases hw with h1 | h1 | ⟨h1, h2, h3⟩
                  · have h4 : ((a' : Int) == (c' : Int)) = false := beq_eq_false_iff_ne.2 (by omega)
                    go_wp2_with fail
                    go_roundw
                    case rel => exact ⟨m' + 1, n', a' + va, c', by omega, by omega, by go_num, rfl, by go_num, rfl, ⟨HYa.out.symm, HY2.out.2⟩, True.intro⟩
                    case measure => simp [intOf]; omega
                  · have h4 : ((a' : Int) == (c' : Int)) = false := beq_eq_false_iff_ne.2 (by omega)
                    go_wp2_with fail
                    go_roundw
                    case rel => exact ⟨m', n' + 1, a', c' + vd, by omega, by omega, rfl, by go_num, rfl, by go_num, ⟨HY2.out.1, HYd.out.symm⟩, True.intro⟩
                    case measure => simp [intOf]; omega
                  · go_wp2_with fail
                    go_roundw
                    case rel => exact ⟨m' + 1, n', a' + va, c', by omega, by omega, by go_num, rfl, by go_num, rfl, ⟨HYa.out.symm, HY2.out.2⟩, True.intro⟩
                    case measure => simp [intOf]; omega
              · by_cases hi2 : m' < na
                · have hk2 : ¬ n' < nb := fun h => hlt2 ⟨hi2, h⟩
                  clear hlt2
                  go_wp2_with fail
                  go_ret
                  exact ⟨rfl, HT5.out.2.1.drewN _⟩
                · clear hlt2
                  go_wp2_with fail
                  go_ret
                  exact ⟨rfl, HT5.out.2.1.drewN _⟩
        · have hik : i ≤ nb := hib
          have HYc : Hid (a = (s.take i).sum ∧ a = (t.take i).sum) := ⟨HY.out.1, by rw [HY.out.1, HY.out.2]⟩
          go_wp2_with fail
          go_loopw [14, 15, 16, 17] (fun m n a c wr => ∃ m' n' a' c' : Nat, m' ≤ na ∧ n' ≤ nb ∧ m = .int .i64 m' ∧ n = .int .i64 n' ∧ a = .int .i64 a' ∧ c = .int .i64 c' ∧ Hid (a' = (s.take m').sum ∧ c' = (t.take n').sum) ∧ wr = w5.drewN dd) (fun m n _ _ _ => na + nb - (intOf m).toNat - (intOf n).toNat)
          case atStart => exact ⟨i, i, a, a, hi1, hik, rfl, rfl, rfl, rfl, HYc.out, rfl⟩
          case round =>
            obtain ⟨m', n', a', c', hm1, hn1, rfl, rfl, rfl, rfl, HY2, rfl⟩ := hrel
            have ha1 : a' ≤ 2500 := by rw [HY2.out.1]; have := sum_take_le s m'; have := HSA.out; omega
            have hc1 : c' ≤ 2500 := by rw [HY2.out.2]; have := sum_take_le t n'; have := HSB.out; omega
            by_cases hlt2 : m' < na ∧ n' < nb
            · obtain ⟨hma, hnb⟩ := hlt2
              have hma' : m' < s.length := by rw [← HNA.out]; exact hma
              have hnb' : n' < t.length := by rw [← HNB.out]; exact hnb
              obtain ⟨ba, oa, e1, hba, hca⟩ := HE1.out.at_ (k := m') (u := I64 s[m']) (by simp [hma'])
              obtain ⟨bb, ob, e2, hbb, hcb⟩ := HE2.out.at_ (k := n') (u := I64 t[n']) (by simp [hnb'])
              (first | subst e1 | (injection e1 with e1; injection e1 with q1 q2 _; replace q1 := q1.symm; replace q2 := q2.symm; subst q1; subst q2)); (first | subst e2 | (injection e2 with e2; injection e2 with q1 q2 _; replace q1 := q1.symm; replace q2 := q2.symm; subst q1; subst q2))
              have HYa := Lib.hid (sum_take_succ s m' hma')
              have HYd := Lib.hid (sum_take_succ t n' hnb')
              rw [← HY2.out.1] at HYa
              rw [← HY2.out.2] at HYd
              have hva : s[m'] ≤ 2500 := by have h := HYa.out; have h2 := sum_take_le s (m' + 1); have := HSA.out; omega
              have hvd : t[n'] ≤ 2500 := by have h := HYd.out; have h2 := sum_take_le t (n' + 1); have := HSB.out; omega
              generalize s[m'] = va at *
              generalize t[n'] = vd at *
              unfold I64 at hca hcb
              by_cases hall : a' = c' ∧ k < a'
              · obtain ⟨f0, hka⟩ := hall
                have he : ((a' : Int) == (c' : Int)) = true := beq_iff_eq.2 (by omega)
                have hdr : Hid (s.drop m' = t.drop n') := HBH.out m' n' a' (by rw [← HNA.out]; exact hma) (by rw [← HNB.out]; exact hnb) HY2.out.1 (by rw [f0]; exact HY2.out.2) hka
                have hc1' : ¬ y1 = m' := by omega
                have hc2' : ¬ y2 = n' := by omega
                have f1 : (0 : Int) ≤ (m' : Int) := Int.natCast_nonneg _
                have f2 : (0 : Int) ≤ (n' : Int) := Int.natCast_nonneg _
                have f3 : (m' : Int) ≤ (na : Int) := by omega
                have f4 : (n' : Int) ≤ (nb : Int) := by omega
                have f5 : m' ≤ na := by omega
                have f6 : n' ≤ nb := by omega
                have HI : Hid (∀ q, Calls Try.prog 21 #[.slice (some ⟨ba, oa + m', none⟩) (na - m') (y1 - m'), .slice (some ⟨bb, ob + n', none⟩) (nb - n') (y2 - n')] (w5.drewN q) fun e w' => e = .returned (.bool true) ∧ Q w5 w') := fun q => by
                  have g1 := (HE1.out.drewN q).cut (c := y1) (l := m') (s := 1) (by rw [List.length_map, ← HNA.out]; omega)
                  have g2 := (HE2.out.drewN q).cut (c := y2) (l := n') (s := 1) (by rw [List.length_map, ← HNB.out]; omega)
                  rw [show cutA (some ⟨ba, oa, none⟩) y1 m' 1 = some ⟨ba, oa + m', none⟩ by unfold cutA; rw [if_neg (by omega), Option.map_some, Nat.mul_one, add_addr], Nat.mul_one, ← List.map_drop] at g1
                  rw [show cutA (some ⟨bb, ob, none⟩) y2 n' 1 = some ⟨bb, ob + n', none⟩ by unfold cutA; rw [if_neg (by omega), Option.map_some, Nat.mul_one, add_addr], Nat.mul_one, ← List.map_drop] at g2
                  have h := ints_nat _ _ (y1 - m') (y2 - n') _ _ (s.drop m') (t.drop n') (w5.drewN q) g1 g2 (by rw [List.length_drop, ← HNA.out]; omega) (by rw [List.length_drop, ← HNB.out]; omega)
                  rw [decide_eq_true hdr.out, List.length_drop, List.length_drop, ← HNA.out, ← HNB.out] at h
                  exact h.mono fun e w' ⟨h1, h2⟩ => ⟨h1, ((Q.refl w5).drewN q).step h2⟩
                clear hca hcb HYa HYd hdr f0
                go_wp2_with fail
                go_region_held3 (fun _ => True) (trivial) ((go_at_call 21; go_loud ((with_reducible refine (HI.out _).mono ?_); rintro e w6 ⟨rfl, hq6⟩)))
                go_wp2
                go_ret
                exact ⟨rfl, HT5.out.2.1.step hq6⟩
              · have hw : (a' < c') ∨ (c' < a') ∨ (((a' : Int) == (c' : Int)) = true ∧ a' ≤ k ∧ a' ≤ c') := by
                  rw [beq_iff_eq]
                  omega
                clear hall
                rcases hw with h1 | h1 | ⟨h1, h2, h3⟩
                · have h4 : ((a' : Int) == (c' : Int)) = false := beq_eq_false_iff_ne.2 (by omega)
                  go_wp2_with fail
                  go_roundw
                  case rel => exact ⟨m' + 1, n', a' + va, c', by omega, by omega, by go_num, rfl, by go_num, rfl, ⟨HYa.out.symm, HY2.out.2⟩, True.intro⟩
                  case measure => simp [intOf]; omega
                · have h4 : ((a' : Int) == (c' : Int)) = false := beq_eq_false_iff_ne.2 (by omega)
                  go_wp2_with fail
                  go_roundw
                  case rel => exact ⟨m', n' + 1, a', c' + vd, by omega, by omega, rfl, by go_num, rfl, by go_num, ⟨HY2.out.1, HYd.out.symm⟩, True.intro⟩
                  case measure => simp [intOf]; omega
                · go_wp2_with fail
                  go_roundw
                  case rel => exact ⟨m' + 1, n', a' + va, c', by omega, by omega, by go_num, rfl, by go_num, rfl, ⟨HYa.out.symm, HY2.out.2⟩, True.intro⟩
                  case measure => simp [intOf]; omega
            · by_cases hi2 : m' < na
              · have hk2 : ¬ n' < nb := fun h => hlt2 ⟨hi2, h⟩
                clear hlt2
                go_wp2_with fail
                go_ret
                exact ⟨rfl, HT5.out.2.1.drewN _⟩
              · clear hlt2
                go_wp2_with fail
                go_ret
                exact ⟨rfl, HT5.out.2.1.drewN _⟩

theorem cutNear_true (l : Int) (wl : (Lit.int .i64 l).wf = true) (m : Int) (wm : (Lit.int .i64 m).wf = true) (b : Int) (wb : (Lit.int .i64 b).wf = true) (a : Int) (wa : (Lit.int .u64 a).wf = true) (A : Option Addr) (n c : Nat) (zs : List Int) (k : Int) (wk : (Lit.int .i64 k).wf = true) (w : World) (wA : IsRow .u8 w A n c zs) :
    Calls Try.prog 9 #[.agg #[.int .i64 l, .int .i64 m, .int .i64 b, .int .u64 a], .slice A n c, .int .i64 k] w fun e w' => e = .returned (.bool true) ∧ Below w.heap.size w w' := by
  obtain ⟨ha, ha'⟩ := wf64 wa
  obtain ⟨p, rfl⟩ := Int.eq_ofNat_of_zero_le ha
  obtain ⟨h1, h2, h3, h4, h5, h6⟩ := row8 wA (min n 2500) (by omega)
  exact cutNear_walk l m b k p n c _ A _ w (by omega) h2 rfl h1 h3 h4 h5 h6
end Go.Proofs.Ytddjccjbbajgaaa
