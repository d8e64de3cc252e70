/- The walk through the law CutFeeds. -/
import Derived.Test.YtddjccjbbajgaaaCutO
import Derived.Test.YtddjccjbbajgaaaCutR
import Derived.Test.YtddjccjbbajgaaaStr
namespace Go.Proofs.Ytddjccjbbajgaaa
set_option linter.unusedVariables false
set_option linter.unusedSimpArgs false
open Go.RowKit

/-- d bytes of x were fed; t are left: they lie at B, in the row's block R0. -/
structure FeedSt (w9 wi : World) (kn r lb : Nat) (ru : Rl) (x : List Nat) (R0 : Value) (d t : Nat) (B : Option Addr) (P : List (List Nat)) (p : List Nat) (v : Value) : Prop where
  came : Came ru x d P p
  sees : SeesP wi (fun g => R0.ownBlock = some g) B ((x.drop d).map B8)
  knife : KnifeHas wi w9.heap.size kn r lb ru p v
  q : Q w9 wi
  apart : ∀ g, R0.ownBlock = some g → g < wi.heap.size ∧ ¬ KnifeS kn r lb v g
  len : d + t = x.length
theorem FeedSt.q_ {w9 wi w' : World} {kn r lb : Nat} {ru : Rl} {x : List Nat} {R0 : Value} {d t : Nat} {B : Option Addr} {P : List (List Nat)} {p : List Nat} {v : Value} (h : FeedSt w9 wi kn r lb ru x R0 d t B P p v) (hq : Q wi w') :
    FeedSt w9 w' kn r lb ru x R0 d t B P p v :=
  ⟨h.came, h.sees.belowP (fun b hb => (h.apart b hb).1) hq, h.knife.q hq, h.q.step hq, fun g hg => ⟨Nat.lt_of_lt_of_le (h.apart g hg).1 hq.size, (h.apart g hg).2⟩, h.len⟩

theorem sees_new (w : World) (cs : List Value) (t : TypeId) (ok : Nat → Prop) (hok : ok w.heap.size) : SeesP (w.alloc (.cells cs.toArray t)) ok (some ⟨w.heap.size, 0, none⟩) cs := fun hn => by
  obtain ⟨b, o, e, _, hc⟩ := SeesP.new w cs t hn
  injection e with e
  injection e with e1 e2 _
  subst e1 e2
  exact ⟨_, _, rfl, hok, hc⟩
/-- Two parts and an empty one are fed, that were just put into a row. -/
theorem feed_three (ru : Rl) (base kn r lb n1 c1 n2 c2 : Nat) (p C1 C2 : List Nat) (v : Value) (B1 B2 : Option Addr) (ok : Nat → Prop) (t : TypeId) (w : World) (hr : ru.Right) (hm : ru.m ≤ 18446744073709551615) (hk : KnifeHas w base kn r lb ru p v) (hop : ru.Open p)
    (h1 : SeesP w ok B1 (C1.map B8)) (h2 : SeesP w ok B2 (C2.map B8)) (hx1 : ∀ x ∈ C1, x ≤ 255) (hx2 : ∀ x ∈ C2, x ≤ 255) (hok : ∀ g, ok g → g < w.heap.size ∧ ¬ KnifeS kn r lb v g) (hn1 : C1.length = n1) (hn2 : C2.length = n2) (hl : n1 + n2 ≤ 1000000) :
    Calls Try.prog 17 #[.pointer (some ⟨kn, 0, none⟩), .slice (some ⟨w.heap.size, 0, none⟩) 3 3] (w.alloc (.cells #[.slice B1 n1 c1, .slice none 0 0, .slice B2 n2 c2] t)) (FedOut w base kn r lb ru p (C1 ++ C2) v) := by
  subst hn1 hn2
  have hal : ∀ {B : Option Addr} {C : List Nat}, SeesP w ok B (C.map B8) → SeesP (w.alloc (.cells #[.slice B1 C1.length c1, .slice none 0 0, .slice B2 C2.length c2] t)) (fun g => g < (w.alloc (.cells #[.slice B1 C1.length c1, .slice none 0 0, .slice B2 C2.length c2] t)).heap.size ∧ ¬ KnifeS kn r lb v g) B (C.map B8) := fun h =>
    (h.alloc (fun b hb => (hok b hb).1) _).more (fun b hb => ⟨by have := (hok b hb).1; simp; omega, (hok b hb).2⟩)
  have h := feed_ok ru base kn r lb 3 p v (some ⟨w.heap.size, 0, none⟩) [(.slice B1 C1.length c1, C1), (.slice none 0 0, []), (.slice B2 C2.length c2, C2)] (fun g => g < (w.alloc (.cells #[.slice B1 C1.length c1, .slice none 0 0, .slice B2 C2.length c2] t)).heap.size ∧ ¬ KnifeS kn r lb v g) _ hr hm (hk.alloc (.cells #[.slice B1 C1.length c1, .slice none 0 0, .slice B2 C2.length c2] t)) hop
    (sees_new w _ t _ ⟨by simp, fun h => by have := hk.lt _ h; omega⟩)
    (fun z hz => by
      simp only [List.mem_cons, List.not_mem_nil, or_false] at hz
      rcases hz with rfl | rfl | rfl
      · exact ⟨B1, c1, rfl, hal h1, hx1⟩
      · exact ⟨none, 0, rfl, SeesP.nil _ _ _, by simp⟩
      · exact ⟨B2, c2, rfl, hal h2, hx2⟩)
    (fun g hg => hg) (by simp) (by simp; omega)
  have e : ([(Value.slice B1 C1.length c1, C1), (Value.slice none 0 0, []), (Value.slice B2 C2.length c2, C2)].flatMap (·.2)) = C1 ++ C2 := by simp
  rw [e] at h
  exact h.mono fun e w' ⟨zs, out, v', h1, h2, h3⟩ => ⟨zs, out, v', h1, h2.from_, h3⟩

set_option maxHeartbeats 16000000 in
set_option maxRecDepth 100000 in
theorem cutFeeds_walk (l m b : Int) (p n c K np pc : Nat) (A PA : Option Addr) (x : List Nat) (ps : List Int) (w : World) (hp : p ≤ 18446744073709551615) (hs : SeesP w (· < w.heap.size) A (x.map B8)) (hK : K = min n 2500) (hlk : x.length = K) (hx : ∀ y ∈ x, y ≤ 255) (hnc : n ≤ c) (hcm : c ≤ 9223372036854775807) (hA : A = none → c = 0)
    (hps : SeesP w (· < w.heap.size) PA (ps.map (.int .i64))) (hpl : np ≤ ps.length) (hpm : ps.length ≤ 9223372036854775807) (hpw : ∀ z ∈ ps, (Lit.int .i64 z).wf = true) :
    Calls Try.prog 4 #[ruleV l m b p, .slice A n c, .slice PA np pc] w fun e w' => e = .returned (.bool true) ∧ Q w w' := by
  obtain ⟨i8, hi8, hz80, hz81, hz82⟩ := info_parts info8
  have hby := Lib.hid (fun w' => lawBytes A n c w' hnc hcm)
  rw [← hK] at hby
  have hKc : K ≤ c := by omega
  have hK1 : K ≤ 2500 := by omega
  have hto := Lib.hid (fun l m b p w' => lawTo l m b p w')
  have HR := Lib.hid (fun t => (RuleAt.new w l m b p t).drew)
  obtain ⟨ru, hru, hrm, hta⟩ := tame_any l m b p hp
  have hta := Lib.hid hta
  have hnew := Lib.hid (fun w' => newKnife_ok ru w' hru hrm)
  have HDZ : Hid (∀ w', Q w w' → Calls Try.prog 20 #[ruleV ru.least ru.most ru.bits ru.m, .slice A K c] w' (DocSizesOut w' ru x)) := fun w' hq => by
    have h := docSizes_ok ru A c (· < w.heap.size) x w' hru hrm (hs.below hq) (fun g hg => Nat.lt_of_lt_of_le hg hq.size) hx (by omega) (by omega) hcm
    rw [hlk] at h; exact h
  have hls : (ru.sizes x).length ≤ 2500 := by have := sizes_len ru hru x; omega
  have HS := Lib.hid hs
  have HX := Lib.hid hx
  have HL := Lib.hid hlk
  have HA := Lib.hid hA
  have HPS := Lib.hid hps
  have HPW := Lib.hid hpw
  clear hs hx hlk hK hA hps hpw
  obtain ⟨s, hsz⟩ : ∃ s, s = ru.sizes x := ⟨_, rfl⟩
  rw [← hsz] at hls
  have HSZ := Lib.hid hsz
  obtain ⟨ns, hns⟩ : ∃ ns, ns = s.length := ⟨_, rfl⟩
  rw [← hns] at hls
  have HNS := Lib.hid hns
  clear hsz hns
  unfold ruleV at hto hta hnew HDZ ⊢
  go_enter Try.func4, Try.ntmps4
  go_upto_region 1 with fail
  go_cut [1] (fun bv wx => bv = .slice A K c ∧ Hid (Tamed w wx ru))
  case first =>
    go_region_with (first
      | (go_at_call 10; go_loud ((with_reducible refine (hby.out _).mono ?_); rintro e w1 ⟨rfl, rfl⟩))
      | (go_at_call 18; go_loud ((with_reducible refine (hta.out _).mono ?_); rintro e w8 ⟨rfl, hq8⟩; have HR8 := (HR.out _).q hq8 (by simp); have f0 := HR8.f0; have f1 := HR8.f1; have f2 := HR8.f2; have f3 := HR8.f3; have d0 := HR8.c0; have d1 := HR8.c1; have d2 := HR8.c2; have d3 := HR8.c3; have HR8 := Lib.hid HR8)))
    all_goals (go_wp2_with fail; go_meet; exact ⟨rfl, HR8.out.set _ _ _ _, Q.set4 (((Q.refl w).alloc _).drew.step hq8) (Nat.le_refl _) _ _ _ _, by simp [World.setCell]; exact Nat.lt_of_lt_of_le (by simp) hq8.size⟩)
  case rest =>
    obtain ⟨rfl, HT⟩ := hcut
    have c0 := HT.out.1.c0
    have c1 := HT.out.1.c1
    have c2 := HT.out.1.c2
    have c3 := HT.out.1.c3
    have HQc := Lib.hid HT.out.2.1
    go_wp2_with (first
      | (go_at_call 20; go_loud ((with_reducible refine (HDZ.out _ HQc.out).mono ?_); rintro e wd ⟨wv, rfl, hwo, hqd⟩; have HTd := Lib.hid (HT.out.step hqd); rw [← HSZ.out] at hwo; obtain ⟨W, cw, rfl⟩ := own_form hwo; rw [← HNS.out] at hwo ⊢; have HW := Lib.hid ((sees_own hwo).more (fun g h => h.2) : SeesP wd (· < wd.heap.size) W (s.map I64)); have hcw := (own_cap hwo).1; clear c0 c1 c2 c3 hwo hqd; have c0 := HTd.out.1.c0; have c1 := HTd.out.1.c1; have c2 := HTd.out.1.c2; have c3 := HTd.out.1.c3))
      | (go_at_call 12; go_loud ((with_reducible refine (hto.out _ _ _ _ _).mono ?_); rintro e w9 ⟨rfl, hq9⟩; have HT9 := Lib.hid (HTd.out.step hq9); have HW9 := Lib.hid ((HW.out.belowP (fun _ h => h) hq9).more (fun g h => Nat.lt_of_lt_of_le h hq9.size) : SeesP w9 (· < w9.heap.size) W (s.map I64)); clear hq9 c0 c1 c2 c3))
      | (go_at_call 11; go_loud ((with_reducible refine (hnew.out _).mono ?_); rintro e wk ⟨kn, r, lb, rfl, hk, hqk⟩; have HK := Lib.hid hk; have HQk := Lib.hid hqk; clear hk hqk))
      | (go_at_call 15; (with_reducible refine (lawCuts _).mono ?_); rintro e w5 ⟨rfl, hq5⟩; have HQ5 := Lib.hid (HQk.out.step hq5); have HK5 := Lib.hid (HK.out.q hq5); clear hq5))
    clear HTd HW HK HQk HT HQc
    go_loopw [11] (fun i wr => ∃ R : Nat, R ≤ 2 ∧ i = .int .i64 R ∧ Hid (∃ v, KnifeHas wr w9.heap.size kn r lb ru [] v) ∧ Hid (Q w9 wr)) (fun i _ => 2 - (intOf i).toNat)
    case atStart => exact ⟨0, by omega, rfl, ⟨_, HK5.out⟩, HQ5.out⟩
    case round =>
      obtain ⟨R, hR, rfl, HKr, HQr⟩ := hrel
      by_cases hR2 : R < 2
      · obtain ⟨v0, hkr⟩ := HKr.out
        have HKR := Lib.hid hkr
        have hw0 : w9.heap.size ≤ wr.heap.size := HQr.out.size
        have HSr : Hid (SeesP wr (· < w.heap.size) A (x.map B8)) := HS.out.below (HT9.out.2.1.step HQr.out)
        clear hkr
        obtain ⟨wo, hwo⟩ : ∃ wo, wo = wr := ⟨_, rfl⟩
        subst hwo
        go_wp2_with (at_builtin; go_loud (refine wpList_append_row rfl (.tmp 54) (.tmp 55) 25 rfl wo.heap.size 5 i8 _ 1 Try.underlying25 hi8 hz80 hz81 hz82 rfl _ 0 [] rfl (own_new wo 5 [] (by simp)) (· < w.heap.size) A K c (x.map B8) rfl HA.out (by rw [List.length_map, HL.out]) (HSr.out.alloc (fun g hg => Nat.lt_of_lt_of_le hg (HT9.out.2.1.step HQr.out).size) _) (B8_one _) (by unfold maxLen; omega) (by omega) (by simp) ?_; intro v1 wa hown1 hgr1; rw [Nat.zero_add, List.nil_append] at hown1; obtain ⟨B, bc, rfl⟩ := own_form hown1; have HO1 := Lib.hid hown1; have HQa : Hid (Q wo wa) := hgr1.q ((Q.refl wo).alloc _) (own_new wo 5 [] (by simp)); clear hown1 hgr1))
        obtain ⟨R0, hR0⟩ : ∃ R0, R0 = Value.slice B K bc := ⟨_, rfl⟩
        have hbcK : K ≤ bc := (own_cap HO1.out).1
        have hbcm : bc ≤ 9223372036854775807 := by
          rcases HO1.out.2 with ⟨h1, _⟩ | ⟨g, cap, cur, h1, _, _, _, h2, _⟩
          · injection h1 with _ _ h2; omega
          · injection h1 with _ _ h3; unfold maxLen at h2; omega
        have HST : Hid (FeedSt w9 wa kn r lb ru x R0 0 K B [] [] v0) := by
          subst hR0
          refine ⟨Came.begin_ ru x, ?_, HKR.out.q HQa.out, HQr.out.step HQa.out, fun g hg => ⟨own_lt HO1.out g hg, fun h => ?_⟩, by rw [HL.out]; omega⟩
          · rw [List.drop_zero]
            intro hne
            obtain ⟨g, cap, hf⟩ := Go.Joins.ownsRow_form HO1.out (by rcases K with _ | K; exact absurd (List.eq_nil_of_length_eq_zero (by rw [List.length_map, HL.out])) hne; omega)
            injection hf with e1 _ _
            subst e1
            obtain ⟨b', o', e2, hb', hc'⟩ := sees_own HO1.out hne
            injection e2 with e2
            injection e2 with e3 e4 _
            subst e3 e4
            exact ⟨g, 0, rfl, rfl, hc'⟩
          · have h1 := own_block HO1.out g hg
            have h2 := HKR.out.lt g h
            omega
        clear HO1 hR0
        go_loopw [12, 13, 14, 15, 16] (fun rest at_ came nn i wi => ∃ (d t a i' B' cc : Nat) (Ba : Option Addr) (P : List (List Nat)) (p : List Nat) (v : Value), d + t = K ∧ rest = .slice Ba t cc ∧ t ≤ cc ∧ cc ≤ 9223372036854775807 ∧ at_ = .int .i64 a ∧ came = .int .i64 d ∧ nn = .int .i64 B' ∧ i = .int .i64 i' ∧ i' ≤ 31 ∧ (31 ≤ i' → t = 0) ∧ Hid (a = (P.map List.length).sum ∧ B' = P.length) ∧ Hid (FeedSt w9 wi kn r lb ru x R0 d t Ba P p v)) (fun rest _ _ _ i _ => 2 * (31 - (intOf i).toNat) + min (lenV rest) 1)
        case atStart => exact ⟨0, K, 0, 0, 0, bc, B, [], [], v0, by omega, rfl, hbcK, hbcm, rfl, rfl, rfl, rfl, by omega, by omega, ⟨rfl, rfl⟩, HST.out⟩
        case round =>
          obtain ⟨d, t, a, i, nn, cc, Ba, P, p, v, hdt, rfl, htc, hccm, rfl, rfl, rfl, rfl, hi31, hi0, HY, HF⟩ := hrel
          by_cases ht : 0 < t
          · have hi30 : i ≤ 30 := by omega
            obtain ⟨gb, ob, e1, hgb, _⟩ := HF.out.sees.at_ (k := 0) (u := B8 ((x.drop d)[0]'(by have := HF.out.len; rw [List.length_drop]; omega))) (by rw [List.getElem?_map, List.getElem?_eq_getElem (by have := HF.out.len; rw [List.length_drop]; omega)]; rfl)
            subst e1
            have HGB : Hid (R0.ownBlock = some gb) := hgb
            obtain ⟨wi, hwi⟩ : ∃ wi, wi = wr := ⟨_, rfl⟩
            subst hwi
            clear hgb
            obtain ⟨bb, hbb⟩ : ∃ bb, bb = decide (i < np ∧ i < 30) := ⟨_, rfl⟩
            have HBB := Lib.hid hbb
            clear hbb
            go_upto_region 15 with fail
            go_cut [71] (fun q wx => q = .bool bb ∧ wx = wi)
            case first =>
              by_cases h1 : i < np
              · by_cases h2 : i < 30
                · go_wp2_with fail
                  go_meet
                  exact ⟨by rw [HBB.out]; (simp [h1, h2] <;> omega), rfl⟩
                · go_wp2_with fail
                  go_meet
                  exact ⟨by rw [HBB.out]; (simp [h2] <;> omega), rfl⟩
              · go_wp2_with fail
                go_meet
                exact ⟨by rw [HBB.out]; (simp [h1] <;> omega), rfl⟩
            case rest =>
            obtain ⟨rfl, rfl⟩ := hcut
            obtain ⟨wi, hwi⟩ : ∃ wi, wi = wc := ⟨_, rfl⟩
            subst hwi
            go_upto_if 71 with fail
            go_cut [17] (fun cv wx => ∃ c' : Nat, c' ≤ t ∧ cv = .int .i64 c' ∧ (30 ≤ i → c' = t) ∧ wx = wi)
            case first =>
              cases bb with
              | true =>
                obtain ⟨h1, h2⟩ := of_decide_eq_true HBB.out.symm
                have hips : i < ps.length := by omega
                obtain ⟨pb, po, e1, hpb, hpcell⟩ := HPS.out.at_ (k := i) (u := .int .i64 ps[i]) (by simp [hips])
                subst e1
                have hpcell := ((HT9.out.2.1.step HF.out.q).cell (p := ⟨pb, po + i, none⟩) hpb).trans hpcell
                obtain ⟨u, hu, hu'⟩ := wrap_u64 ps[i]
                obtain ⟨c', hc'⟩ : ∃ c', c' = u % (t + 1) := ⟨_, rfl⟩
                have hct : c' ≤ t := by rw [hc']; exact Nat.le_of_lt_succ (Nat.mod_lt _ (by omega))
                have hmod : (u : Int) % ((t : Int) + 1) = (c' : Int) := by rw [hc']; push_cast; rfl
                generalize ps[i] = z at *
                clear hpb hc'
                go_wp2_with fail
                go_meet
                exact ⟨c', hct, rfl, by omega, rfl⟩
              | false =>
                go_wp2_with fail
                go_meet
                exact ⟨t, by omega, rfl, fun _ => rfl, rfl⟩
            case rest =>
              obtain ⟨c', hct, rfl, hc30, rfl⟩ := hcut
              obtain ⟨h, hh⟩ : ∃ h, h = c' / 2 := ⟨_, rfl⟩
              have hhi : (c' : Int) / 2 = (h : Int) := by omega
              have hht : Int.tdiv (c' : Int) 2 = (h : Int) := by rw [Int.tdiv_eq_ediv_of_nonneg (by omega)]; exact hhi
              have hhw : IntKind.i64.wrap (h : Int) = (h : Int) := IntWalk.i64_in _ (by omega)
              have hhc : h ≤ c' := by omega
              have hhcc : ¬ cc = h := by omega
              have k1 : (0 : Int) ≤ (h : Int) := by omega
              have k2 : (h : Int) ≤ (c' : Int) := by omega
              have k3 : (c' : Int) ≤ (cc : Int) := by omega
              have k4 : (h : Int) ≤ (cc : Int) := by omega
              have k5 : c' ≤ cc := by omega
              have k6 : h ≤ cc := by omega
              have hxlen := HF.out.len
              have hseesD := HF.out.sees
              have HFD : Hid (∀ ty, Calls Try.prog 17 #[.pointer (some ⟨kn, 0, none⟩), .slice (some ⟨wc.heap.size, 0, none⟩) 3 3] ((wc.alloc (.cells #[.slice (some ⟨gb, ob, none⟩) h cc, .slice none 0 0, .slice (some ⟨gb, ob + h, none⟩) (c' - h) (cc - h)] ty)).drew) (FedOut wc.drew w9.heap.size kn r lb ru p ((x.drop d).take c') v)) := fun ty => by
                have hs2 := (hseesD.cut (c := cc) (l := h) (s := 1) (by rw [List.length_map, List.length_drop]; omega)).take (c' - h)
                rw [show cutA (some ⟨gb, ob, none⟩) cc h 1 = some ⟨gb, ob + h, none⟩ by unfold cutA; rw [if_neg hhcc, Option.map_some, Nat.mul_one, add_addr], Nat.mul_one, ← List.map_drop, ← List.map_take] at hs2
                have hs1 := hseesD.take h
                rw [← List.map_take] at hs1
                have hf := feed_three ru w9.heap.size kn r lb h cc (c' - h) (cc - h) p ((x.drop d).take h) (((x.drop d).drop h).take (c' - h)) v (some ⟨gb, ob, none⟩) (some ⟨gb, ob + h, none⟩) _ ty wc.drew hru hrm (HF.out.knife.q (Q.refl wc).drew) HF.out.came.open_ hs1.drew hs2.drew (fun z hz => HX.out z (List.mem_of_mem_drop (List.mem_of_mem_take hz))) (fun z hz => HX.out z (List.mem_of_mem_drop (List.mem_of_mem_drop (List.mem_of_mem_take hz)))) HF.out.apart (by rw [List.length_take, List.length_drop]; omega) (by rw [List.length_take, List.length_drop, List.length_drop]; omega) (by omega)
                have ec : (x.drop d).take h ++ ((x.drop d).drop h).take (c' - h) = (x.drop d).take c' := by
                  rw [← List.take_add, Nat.add_sub_cancel' hhc]
                rw [ec] at hf
                exact hf
              clear hseesD hh
              go_upto_region 17 with fail
              go_region_held3 (fun _ => True) (trivial) ((go_at_call 17; go_loud ((with_reducible refine (HFD.out _).mono ?_); rintro e w3 ⟨zs, out, v', rfl, hFd, hz⟩; have HFd := Lib.hid hFd; have HZ := Lib.hid hz; obtain ⟨oA, oc, rfl⟩ := own_form hFd.outs; clear hFd hz)))
              have HCm : Hid (Came ru x (d + c') (P ++ zs.map (·.2)) (ru.feed p ((x.drop d).take c')).2) := by
                have h1 := HF.out.came.step (c := c')
                rw [← HZ.out] at h1
                exact h1
              obtain ⟨p', hp'⟩ : ∃ p', p' = (ru.feed p ((x.drop d).take c')).2 := ⟨_, rfl⟩
              rw [← hp'] at HCm HFd
              have hQ3 : Hid (Q w9 w3) := HFd.out.only.q (HF.out.q.drew) (fun k hk => HF.out.knife.ge k hk)
              have HAP : Hid (∀ g, R0.ownBlock = some g → g < w3.heap.size ∧ ¬ KnifeS kn r lb v' g) := fun g hg => by
                obtain ⟨h1, h2⟩ := HF.out.apart g hg
                have h3 := HFd.out.only.size
                refine ⟨Nat.lt_of_lt_of_le h1 h3, fun h => ?_⟩
                rcases HFd.out.knifeS h with h4 | h4
                · exact h2 h4
                · have : wc.drew.heap.size = wc.heap.size := rfl
                  omega
              have HSE : Hid (SeesP w3 (fun g => R0.ownBlock = some g) (some ⟨gb, ob, none⟩) ((x.drop d).map B8)) := HFd.out.only.sees (HF.out.sees.drew) (fun b hb => HF.out.apart b hb)
              obtain ⟨N, hN⟩ : ∃ N, N = zs.length := ⟨_, rfl⟩
              have HN := Lib.hid hN
              have hcount : P.length + N ≤ 2500 := by
                obtain ⟨T, hT⟩ := HCm.out.sizes
                have := congrArg List.length hT
                rw [← HSZ.out, ← HNS.out, List.length_append, List.length_map, List.length_append, List.length_map] at this
                omega
              rw [← hN]
              have HOUT := Lib.hid (sees_own HFd.out.outs)
              have HWc : Hid (SeesP w3 (· < w9.heap.size) W (s.map I64)) := HW9.out.below hQ3.out
              have HSc : Hid (SeesP w3 (· < w.heap.size) A (x.map B8)) := HS.out.below (HT9.out.2.1.step hQ3.out)
              obtain ⟨a0, nn0, hY⟩ : ∃ a0 nn0, a = a0 ∧ nn = nn0 := ⟨_, _, rfl, rfl⟩
              have HY0 : Hid (a = ((P ++ zs.map (·.2)).map List.length |>.take (P.length + 0)).sum ∧ nn = P.length + 0) := ⟨by rw [HY.out.1, Nat.add_zero, List.map_append, List.take_append_of_le_length (by simp), List.take_of_length_le (by simp)], HY.out.2⟩
              obtain ⟨PP, hPP⟩ : ∃ PP, PP = P ++ zs.map (·.2) := ⟨_, rfl⟩
              obtain ⟨pl, hpl⟩ : ∃ pl, pl = P.length := ⟨_, rfl⟩
              rw [← hPP] at HY0 HCm
              rw [← hpl] at HY0 hcount
              have HPP := Lib.hid hPP
              have HPL := Lib.hid hpl
              have HPN : Hid (PP.length = pl + N) := by show _ = _; rw [hPP, List.length_append, List.length_map, hN, hpl]
              have hK0 : 0 < K := by omega
              obtain ⟨ab, ao, eA, hab, _⟩ := HSc.out.at_ (k := 0) (u := B8 (x[0]'(by have := HL.out; omega))) (by rw [List.getElem?_map, List.getElem?_eq_getElem (by have := HL.out; omega)]; rfl)
              subst eA
              clear hN hp' hY hPP hpl hhi hht hhw k1 k2 k3 k4 k6 hhc hhcc hab
              go_wp2_with fail
              go_loopw [13, 15, 19] (fun at_ nn y wr => ∃ (y' a n' : Nat), y' ≤ N ∧ y = .int .i64 y' ∧ at_ = .int .i64 a ∧ nn = .int .i64 n' ∧ Hid (a = ((PP.map List.length).take (pl + y')).sum ∧ n' = pl + y') ∧ ∃ q, wr = w3.drewN q) (fun _ _ y _ => N - (intOf y).toNat)
              case atStart => exact ⟨0, a, nn, by omega, rfl, rfl, rfl, HY0.out, 0, rfl⟩
              case round =>
                obtain ⟨y, a1, n1, hyN, rfl, rfl, rfl, HY1, q, rfl⟩ := hrel
                by_cases hyt : y < N
                · have hyP : pl + y < PP.length := by rw [HPN.out]; omega
                  obtain ⟨hl1, hl2, hl3, hl4⟩ := HCm.out.piece hyP
                  have hyz : y < zs.length := by rw [← HN.out]; exact hyt
                  have hsy : pl + y < s.length := by rw [HSZ.out]; exact hl1
                  have hPy : PP[pl + y] = zs[y].2 := by
                    have h1 : PP[pl + y]? = some zs[y].2 := by rw [HPP.out, List.getElem?_append_right (by rw [HPL.out]; omega), List.getElem?_map, HPL.out, Nat.add_sub_cancel_left, List.getElem?_eq_getElem hyz]; rfl
                    rw [List.getElem?_eq_getElem hyP] at h1
                    exact Option.some.inj h1
                  obtain ⟨wb, wo', e1, hwb, hwc⟩ := HWc.out.at_ (k := pl + y) (u := I64 s[pl + y]) (by simp [hsy])
                  obtain ⟨bo, oo, e2, hbo, hoc⟩ := HOUT.out.at_ (k := y) (u := zs[y].1) (by simp [hyz])
                  subst e1 e2
                  obtain ⟨zo, hzne, hzb⟩ := HFd.out.pcs zs[y] (List.getElem_mem hyz)
                  obtain ⟨vA, vc, hzv⟩ := own_form zo
                  rw [hzv] at hoc zo
                  have hsm : s[pl + y] = zs[y].2.length := by
                    have : s[pl + y] = (ru.sizes x)[pl + y] := List.getElem_of_eq HSZ.out _
                    rw [this, hl2, hPy]
                  rw [hsm] at hwc
                  rw [hPy] at hl3 hl4
                  have ha1e : ((PP.map List.length).take (pl + y)).sum = a1 := HY1.out.1.symm
                  rw [ha1e] at hl3 hl4
                  have hn1 : n1 = pl + y := HY1.out.2
                  have HN1 := Lib.hid hn1
                  rw [← hn1] at hwc
                  have hcv1 : Hid (∀ q', (convert 25 9 (.slice vA zs[y].2.length vc)).run Try.prog (w3.drewN q') = .ok (.string (strB zs[y].2)) (w3.drewN q')) := fun q' =>
                    run_convert_sees _ _ _ _ Try.underlying25 Try.underlying5 Try.underlying9 _ vA _ vc zs[y].2 rfl ((sees_own zo).drewN q')
                  have hmpos : 1 ≤ zs[y].2.length := List.length_pos_iff.2 hzne
                  have hxl : x.length = K := HL.out
                  have hcv2 : Hid (∀ q', (convert 25 9 (.slice (some ⟨ab, ao + a1, none⟩) zs[y].2.length (c - a1))).run Try.prog (w3.drewN q') = .ok (.string (strB zs[y].2)) (w3.drewN q')) := fun q' => by
                    have h1 := (HSc.out.cut (c := c) (l := a1) (s := 1) (by rw [List.length_map]; omega)).take zs[y].2.length
                    rw [show cutA (some ⟨ab, ao, none⟩) c a1 1 = some ⟨ab, ao + a1, none⟩ by unfold cutA; rw [if_neg (by omega), Option.map_some, Nat.mul_one, add_addr], Nat.mul_one, ← List.map_drop, ← List.map_take, hl3] at h1
                    exact run_convert_sees _ _ _ _ Try.underlying25 Try.underlying5 Try.underlying9 _ _ _ _ zs[y].2 rfl (h1.drewN q')
                  have HYn : Hid (a1 + zs[y].2.length = ((PP.map List.length).take (pl + (y + 1))).sum) := by
                    show _ = _
                    rw [← Nat.add_assoc, sum_take_succ (PP.map List.length) (pl + y) (by simpa using hyP), ha1e, List.getElem_map, hPy]
                  unfold I64 at hwc
                  generalize zs[y].2.length = mm at *
                  generalize strB zs[y].2 = ss at *
                  have b1 : IntKind.i64.wrap ((a1 : Int) + (mm : Int)) = (a1 : Int) + (mm : Int) := IntWalk.i64_in _ (by omega)
                  have b2 : (0 : Int) ≤ (a1 : Int) := by omega
                  have b3 : (a1 : Int) ≤ (a1 : Int) + (mm : Int) := by omega
                  have b4 : (a1 : Int) + (mm : Int) ≤ (c : Int) := by omega
                  have b5 : ((a1 : Int) + (mm : Int)).toNat = a1 + mm := by omega
                  have b6 : ¬ c = a1 := by omega
                  have b7 : (0 : Int) ≤ (a1 : Int) + (mm : Int) := by omega
                  have b8 : decide (ns ≤ n1) = false := decide_eq_false (by rw [HNS.out]; omega)
                  have b9 : n1 < ns := by rw [HNS.out]; omega
                  have b11 : n1 ≤ 2500 := by omega
                  have hcv1' := hcv1.out
                  have hcv2' := hcv2.out
                  clear hl1 hl2 hl3 ha1e hPy hsm hzv hzne hzb zo hxl hsy hn1
                  go_wp2_with fail
                  go_quiet (fail)
                  clear b1 b5
                  go_wp2
                  go_roundw
                  case rel => exact ⟨y + 1, a1 + mm, n1 + 1, by omega, by go_num, by go_num, by go_num, ⟨HYn.out, by rw [HN1.out]; rfl⟩, _, rfl⟩
                  case measure => simp [intOf]; omega
                · obtain rfl : y = N := by omega
                  have hn1 : n1 = pl + y := HY1.out.2
                  have HN1 := Lib.hid hn1
                  have HAS : Hid (a1 = (PP.map List.length).sum) := by
                    show _ = _; rw [HY1.out.1, List.take_of_length_le (by rw [List.length_map, HPN.out]; omega)]
                  have hflat : a1 + p'.length = d + c' := by
                    have h1 := HCm.out.flat (by have := HL.out; omega)
                    rw [← HAS.out] at h1
                    exact h1
                  have HNX : Hid (FeedSt w9 (w3.drewN q) kn r lb ru x R0 (d + c') (t - c') (cutA (some ⟨gb, ob, none⟩) cc c' 1) PP p' v') := by
                    refine ⟨HCm.out, ?_, HFd.out.knife.q ((Q.refl w3).drewN q), hQ3.out.drewN q, HAP.out, by have := HL.out; omega⟩
                    have h1 := (HSE.out.drewN q).cut (c := cc) (l := c') (s := 1) (by rw [List.length_map, List.length_drop]; have := HL.out; omega)
                    rw [Nat.mul_one, ← List.map_drop, List.drop_drop] at h1
                    exact h1
                  have HM1 : Hid (31 ≤ i + 1 → t - c' = 0) := fun h => by have := hc30 (by omega); omega
                  by_cases hlast : n1 + 1 < ns
                  · have hlast' : PP.length + 1 < (ru.sizes x).length := by rw [HPN.out, ← HSZ.out, ← HNS.out]; omega
                    obtain ⟨hl1, hl2⟩ := HCm.out.next hlast'
                    have hsl : n1 < s.length := by rw [← HNS.out]; omega
                    have hsx : s[n1] = (ru.sizes x)[PP.length] := by
                      have h1 : s[n1]? = (ru.sizes x)[PP.length]? := by rw [HSZ.out, HPN.out, hn1]
                      rw [List.getElem?_eq_getElem hsl, List.getElem?_eq_getElem hl1] at h1
                      exact Option.some.inj h1
                    rw [← hsx] at hl2
                    obtain ⟨wb, wo', e1, hwb, hwc⟩ := HWc.out.at_ (k := n1) (u := I64 s[n1]) (by simp [hsl])
                    subst e1
                    unfold I64 at hwc
                    have hsb : s[n1] ≤ 65536 := by
                      have h1 := (ru.sizes_get hru x n1 (by rw [← HSZ.out]; exact hsl)).2.1
                      have h2 : s[n1] = (ru.sizes x)[n1]'(by rw [← HSZ.out]; exact hsl) := List.getElem_of_eq HSZ.out _
                      have := hru.m16
                      omega
                    generalize s[n1] = sv at *
                    have b11 : n1 ≤ 2500 := by omega
                    clear hsx hl1 hlast' hn1
                    go_wp2_with (refine gate 163 rfl ?_; refine wpList_slice_lo rfl 25 (.tmp 161) (.tmp 162) rfl 5 Try.underlying25 i8 hi8 1 hz81 _ _ _ rfl .i64 c' rfl hct ?_)
                    go_roundw
                    case rel => exact ⟨d + c', t - c', a1, i + 1, n1, cc - c', cutA (some ⟨gb, ob, none⟩) cc c' 1, PP, p', v', by omega, rfl, by omega, by omega, rfl, by go_num, rfl, by go_num, by omega, HM1.out, ⟨HAS.out, HN1.out.trans HPN.out.symm⟩, HNX.out⟩
                    case measure => simp [intOf, lenV]; omega
                  · have b11 : n1 ≤ 2500 := by omega
                    clear hn1
                    go_wp2_with (refine gate 163 rfl ?_; refine wpList_slice_lo rfl 25 (.tmp 161) (.tmp 162) rfl 5 Try.underlying25 i8 hi8 1 hz81 _ _ _ rfl .i64 c' rfl hct ?_)
                    go_roundw
                    case rel => exact ⟨d + c', t - c', a1, i + 1, n1, cc - c', cutA (some ⟨gb, ob, none⟩) cc c' 1, PP, p', v', by omega, rfl, by omega, by omega, rfl, by go_num, rfl, by go_num, by omega, HM1.out, ⟨HAS.out, HN1.out.trans HPN.out.symm⟩, HNX.out⟩
                    case measure => simp [intOf, lenV]; omega
          · obtain rfl : t = 0 := by omega
            obtain rfl : d = K := by omega
            have hcm := HF.out.came
            rw [← HL.out] at hcm
            obtain ⟨hla1, hla2, hla3⟩ := hcm.last
            rw [← HSZ.out, ← HNS.out, ← HY.out.2] at hla1 hla2
            rw [List.length_flatten, ← HY.out.1] at hla3
            have HL3 := Lib.hid hla3
            have HKe := Lib.hid HF.out.knife
            have HQe := Lib.hid HF.out.q
            have hflat := HF.out.came.flat (by rw [HL.out]; omega)
            rw [← HY.out.1] at hflat
            by_cases hp0 : p = []
            · subst hp0
              have hnn := hla1 rfl
              have HN0 := Lib.hid (fun q => end_none ru w9.heap.size kn r lb v (wr.drewN q) (HKe.out.q ((Q.refl wr).drewN q)))
              have HN1 := Lib.hid (end_none ru w9.heap.size kn r lb v wr HKe.out)
              have hd : ((nn : Int) != (ns : Int)) = false := by rw [hnn]; simp
              have HQ0 := Lib.hid (HF.out.q)
              clear hla1 hla2 hla3 hcm HF hnn
              go_wp2_with (go_at_call 14; (with_reducible refine HN1.out.mono ?_); rintro e we ⟨rfl, rfl⟩)
              go_roundw
              case rel => exact ⟨R + 1, by omega, by go_num, ⟨v, HKe.out⟩, HQe.out⟩
              case measure => simp [intOf]; omega
            · have hnn := hla2 hp0
              have HN1 := Lib.hid (end_some ru w9.heap.size kn r lb p v wr hru HKe.out hp0)
              obtain ⟨vA, vc, rfl⟩ := own_form HKe.out.own
              obtain ⟨pl, hpl⟩ : ∃ pl, pl = p.length := ⟨_, rfl⟩
              have hpl1 : 1 ≤ pl := by rw [hpl]; exact List.length_pos_iff.2 hp0
              rw [← hpl] at HN1 hflat
              have hac : ¬ c = a := by omega
              have f1 : (0 : Int) ≤ (a : Int) := Int.natCast_nonneg _
              have f2 : (a : Int) ≤ (d : Int) := by omega
              have f3 : a ≤ d := by omega
              have hda : d - a = pl := by omega
              have hsub : IntKind.i64.wrap ((ns : Int) - 1) = (nn : Int) := by rw [IntWalk.i64_in _ (by omega)]; omega
              have HPLq := Lib.hid hpl
              obtain ⟨ab, ao, eA, hab, hcell0⟩ := HS.out.at_ (k := 0) (u := B8 (x[0]'(by have := HL.out; omega))) (by rw [List.getElem?_map, List.getElem?_eq_getElem (by have := HL.out; omega)]; rfl)
              subst eA
              clear hcell0
              rw [← hpl] at HKe
              have HNN := Lib.hid hnn
              have hnb : nn ≤ 2500 := by omega
              clear hla1 hla2 hla3 hcm HF hp0 hpl hnn hflat hab
              go_wp2_with (first
                | (go_at_call 14; first
                    | (have _h := HKe2; go_loud ((with_reducible refine (HN2.out _).mono ?_); rintro e wf ⟨rfl, rfl⟩))
                    | (go_loud ((with_reducible refine HN1.out.mono ?_); rintro e we ⟨rfl, hke, hoe⟩; have HKe2 := Lib.hid hke; have hQ2 : Hid (Q w9 we) := hoe.q HQe.out (fun k hk => HKe.out.ge k (by rcases hk with h | h | h; exact .inl h; exact .inr (.inl h); exact .inr (.inr (.inl h)))); have HN2 : Hid (∀ q, Calls Try.prog 14 #[.pointer (some ⟨kn, 0, none⟩)] (we.drewN q) fun e w' => e = .returned (.tuple #[.slice none 0 0, .bool false]) ∧ we.drewN q = w') := (fun q => end_none ru w9.heap.size kn r lb _ (we.drewN q) (HKe2.out.q ((Q.refl we).drewN q))); have hc1 : ∀ q, (convert 25 9 (.slice vA pl vc)).run Try.prog (we.drewN q) = .ok (.string (strB p)) (we.drewN q) := (fun q => run_convert_sees _ _ _ _ Try.underlying25 Try.underlying5 Try.underlying9 _ vA pl vc p HPLq.out.symm ((sees_own (own_only HKe.out.own hoe (fun g hg hs => by obtain ⟨h1, h2, h3⟩ := HKe.out.far; rcases hs with h | h | h; exact h1 (h ▸ hg); exact h2 (h ▸ hg); exact h3 (h ▸ hg)))).drewN q)); have hc2 : ∀ q, (convert 25 9 (.slice (some ⟨ab, ao + a, none⟩) pl (c - a))).run Try.prog (we.drewN q) = .ok (.string (strB p)) (we.drewN q) := (fun q => run_convert_sees _ _ _ _ Try.underlying25 Try.underlying5 Try.underlying9 (· < w.heap.size) (some ⟨ab, ao + a, none⟩) pl (c - a) p HPLq.out.symm ((by have h1 := (HS.out.below (HT9.out.2.1.step hQ2.out)).cut (c := c) (l := a) (s := 1) (by rw [List.length_map, HL.out]; omega); rw [show cutA (some ⟨ab, ao, none⟩) c a 1 = some ⟨ab, ao + a, none⟩ by unfold cutA; rw [if_neg hac, Option.map_some, Nat.mul_one, add_addr], Nat.mul_one, ← List.map_drop, HL3.out] at h1; exact h1 : SeesP we (· < w.heap.size) (some ⟨ab, ao + a, none⟩) (p.map B8)).drewN q))))))
              go_quiet (fail)
              go_wp2_with (go_at_call 14; go_loud ((with_reducible refine (HN2.out _).mono ?_); rintro e wf ⟨rfl, rfl⟩))
              go_roundw
              case rel => exact ⟨R + 1, by omega, by go_num, ⟨_, HKe2.out.q ((Q.refl we).drewN _)⟩, hQ2.out.drewN _⟩
              case measure => simp [intOf]; omega
      · obtain rfl : R = 2 := by omega
        go_wp2_with fail
        go_ret
        exact ⟨rfl, HT9.out.2.1.step HQr.out⟩

theorem cutFeeds_true (l : Int) (wl : (Lit.int .i64 l).wf = true) (m : Int) (wm : (Lit.int .i64 m).wf = true) (b : Int) (wb : (Lit.int .i64 b).wf = true) (a : Int) (wa : (Lit.int .u64 a).wf = true) (A : Option Addr) (n c : Nat) (zs : List Int) (PA : Option Addr) (np pc : Nat) (ps : List Int) (w : World) (wA : IsRow .u8 w A n c zs) (wP : IsRow .i64 w PA np pc ps) :
    Calls Try.prog 4 #[.agg #[.int .i64 l, .int .i64 m, .int .i64 b, .int .u64 a], .slice A n c, .slice PA np pc] w fun e w' => e = .returned (.bool true) ∧ Below w.heap.size w w' := by
  obtain ⟨ha, ha'⟩ := wf64 wa
  obtain ⟨p, rfl⟩ := Int.eq_ofNat_of_zero_le ha
  obtain ⟨h1, h2, h3, h4, h5, h6⟩ := row8 wA (min n 2500) (by omega)
  obtain ⟨k1, k2, k3⟩ := wP.len_le
  exact cutFeeds_walk l m b p n c _ np pc A PA _ ps w (by omega) h2 rfl h1 h3 h4 h5 h6 wP.sees (by omega) (by unfold maxLen at k3; omega) wP.wf
end Go.Proofs.Ytddjccjbbajgaaa
