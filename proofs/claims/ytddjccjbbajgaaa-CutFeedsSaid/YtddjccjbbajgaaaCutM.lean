/- Plain: what stands behind an end of a piece; a row of bytes that is put together; the walk through the law CutBehind. -/
import Derived.Test.YtddjccjbbajgaaaCutK
import Derived.Test.YtddjccjbbajgaaaApd
namespace Go.Proofs.Ytddjccjbbajgaaa
set_option linter.unusedVariables false
set_option linter.unusedSimpArgs false
open Go.RowKit

theorem flatten_take (L : List (List Nat)) : ∀ k, (L.take k).flatten = L.flatten.take ((L.map List.length).take k).sum := by
  induction L with
  | nil => intro k; simp
  | cons q L ih =>
    intro k
    cases k with
    | zero => simp
    | succ k => simp only [List.take_succ_cons, List.flatten_cons, List.map_cons, List.sum_cons, ih k, List.take_length_add_append]
theorem flatten_drop (L : List (List Nat)) : ∀ k, (L.drop k).flatten = L.flatten.drop ((L.map List.length).take k).sum := by
  induction L with
  | nil => intro k; simp
  | cons q L ih =>
    intro k
    cases k with
    | zero => simp
    | succ k => simp only [List.take_succ_cons, List.drop_succ_cons, List.flatten_cons, List.map_cons, List.sum_cons, ih k, List.drop_length_add_append]
theorem Rl.take_whole (r : Rl) (a : List Nat) {k : Nat} (hk : k < (r.pieces a).length) : ∀ q ∈ (r.pieces a).take k, r.Whole q := by
  obtain ⟨hw, _⟩ := r.feed_whole a [] r.open_nil
  intro q hq
  have hle : (r.pieces a).take k = (r.feed [] a).1.take k := by
    unfold Rl.pieces at hk ⊢
    rw [List.take_append_of_le_length]
    split at hk
    · simp at hk; omega
    · simp at hk; omega
  rw [hle] at hq
  exact hw q (List.mem_of_mem_take hq)
theorem Rl.pieces_put (r : Rl) (a b : List Nat) {k : Nat} (hk : k < (r.pieces a).length) : r.pieces (a.take ((r.sizes a).take k).sum ++ b) = (r.pieces a).take k ++ r.pieces b := by
  have h := r.pieces_wholes _ b (r.take_whole a hk)
  rw [flatten_take, r.pieces_join] at h
  exact h
theorem Rl.sizes_put (r : Rl) (a b : List Nat) {k : Nat} (hk : k < (r.sizes a).length) : r.sizes (a.take ((r.sizes a).take k).sum ++ b) = (r.sizes a).take k ++ r.sizes b := by
  have h := r.pieces_put a b (k := k) (by unfold Rl.sizes at hk; rwa [List.length_map] at hk)
  show (r.pieces _).map List.length = ((r.pieces a).map List.length).take k ++ (r.pieces b).map List.length
  rw [h, List.map_append, List.map_take]
theorem Rl.sizes_drop (r : Rl) (a : List Nat) {k : Nat} (hk : k < (r.sizes a).length) : (r.sizes a).drop k = r.sizes (a.drop ((r.sizes a).take k).sum) := by
  have h := r.sizes_put a (a.drop ((r.sizes a).take k).sum) hk
  rw [List.take_append_drop] at h
  conv at h => lhs; rw [← List.take_append_drop k (r.sizes a)]
  exact List.append_cancel_left h
theorem Rl.sizes_behind (r : Rl) (a b : List Nat) : r.sizes (a.take ((r.sizes a).take ((r.sizes a).length - 1)).sum ++ b) = (r.sizes a).take ((r.sizes a).length - 1) ++ r.sizes b := by
  by_cases h : (r.sizes a).length = 0
  · rw [List.eq_nil_of_length_eq_zero h]; simp
  · exact r.sizes_put a b (by omega)
theorem sizes_len (ru : Rl) (hru : ru.Right) (x : List Nat) : (ru.sizes x).length ≤ x.length := by
  have h := ru.sizes_get hru x
  have h2 := ru.sizes_sum x
  have h3 : ∀ s : List Nat, (∀ v ∈ s, 1 ≤ v) → s.length ≤ s.sum := fun s => by
    induction s with
    | nil => simp
    | cons a s ih => intro h; have := h a (List.mem_cons_self ..); have := ih (fun v hv => h v (List.mem_cons_of_mem _ hv)); simp; omega
  have := h3 (ru.sizes x) (fun v hv => by obtain ⟨i, hi, rfl⟩ := List.getElem_of_mem hv; exact (h i hi).1)
  omega

/-- Since world wr a row of bytes is put together: it lies in v. -/
structure Bld (w wr wx : World) (ru : Rl) (v : Value) (L : List Nat) : Prop where
  t : Tamed w wx ru
  own : wx.ownsRow wr.heap.size 5 1 v L.length (L.map B8)
  q : Q wr wx
  lt : w.heap.size < wr.heap.size
theorem Bld.step {w wr wx w' : World} {ru : Rl} {v : Value} {L : List Nat} (h : Bld w wr wx ru v L) (hq : Q wx w') : Bld w wr w' ru v L :=
  ⟨h.t.step hq, own_below h.own hq, h.q.step hq, h.lt⟩
theorem Bld.begin_ {w wr : World} {ru : Rl} (h : Tamed w wr ru) : Bld w wr wr ru (.slice none 0 0) [] := ⟨h, World.ownsRow_nil _ _ _ _, Q.refl _, h.2.2⟩
theorem Bld.made {w wr wx : World} {ru : Rl} {v : Value} {L : List Nat} (h : Bld w wr wx ru v L) (t : TypeId) (ht : t = 5) : Bld w wr (wx.alloc (.cells #[] t)) ru (.slice (some ⟨wx.heap.size, 0, none⟩) 0 0) [] := by
  subst ht
  exact ⟨h.t.step ((Q.refl wx).alloc _), own_mono (own_new wx 5 [] (by simp)) h.q.size, h.q.alloc _, h.lt⟩
theorem Tamed.below {w wx w' : World} {ru : Rl} {B : Nat} (h : Tamed w wx ru) (hb : Below B wx w') (h1 : w.heap.size < B) : Tamed w w' ru := by
  obtain ⟨⟨c0, c1, c2, c3, f0, f1, f2, f3⟩, hq, hl⟩ := h
  exact ⟨⟨(hb.cell (p := ⟨w.heap.size, 0, none⟩) h1).trans c0, (hb.cell (p := ⟨w.heap.size, 1, none⟩) h1).trans c1, (hb.cell (p := ⟨w.heap.size, 2, none⟩) h1).trans c2, (hb.cell (p := ⟨w.heap.size, 3, none⟩) h1).trans c3,
      (hb.frozen (p := ⟨w.heap.size, 0, none⟩) h1).trans f0, (hb.frozen (p := ⟨w.heap.size, 1, none⟩) h1).trans f1, (hb.frozen (p := ⟨w.heap.size, 2, none⟩) h1).trans f2, (hb.frozen (p := ⟨w.heap.size, 3, none⟩) h1).trans f3⟩,
    Below.trans hq (hb.mono (by omega)), Nat.lt_of_lt_of_le hl hb.size⟩
theorem Bld.grew {w wr wx w' : World} {ru : Rl} {v v' : Value} {L M : List Nat} (h : Bld w wr wx ru v L) (hown : w'.ownsRow wr.heap.size 5 1 v' (L.length + M.length) (L.map B8 ++ M.map B8)) (hg : Grew wx w' v v') : Bld w wr w' ru v' (L ++ M) := by
  have hb : Below wr.heap.size wx w' := hg.below (Below.refl _ _) h.own h.q.size
  refine ⟨h.t.below hb h.lt, ?_, Below.trans h.q hb, h.lt⟩
  rw [List.length_append, List.map_append]; exact hown
theorem Bld.drew {w wr wx : World} {ru : Rl} {v : Value} {L : List Nat} (h : Bld w wr wx ru v L) : Bld w wr wx.drew ru v L := h.step (Q.refl wx).drew

set_option maxHeartbeats 16000000 in
set_option maxRecDepth 100000 in
theorem cutBehind_walk (l m b : Int) (p n c K n' c' K' : Nat) (A A' : Option Addr) (x x' : List Nat) (w : World) (hp : p ≤ 18446744073709551615) (hs : SeesP w (· < w.heap.size) A (x.map B8)) (hK : K = min n 2500) (hlk : x.length = K) (hx : ∀ y ∈ x, y ≤ 255) (hnc : n ≤ c) (hcm : c ≤ 9223372036854775807) (hA : A = none → c = 0)
    (hs' : SeesP w (· < w.heap.size) A' (x'.map B8)) (hK' : K' = min n' 2500) (hlk' : x'.length = K') (hx' : ∀ y ∈ x', y ≤ 255) (hnc' : n' ≤ c') (hcm' : c' ≤ 9223372036854775807) (hA' : A' = none → c' = 0) :
    Calls Try.prog 6 #[ruleV l m b p, .slice A n c, .slice A' n' c'] w fun e w' => e = .returned (.bool true) ∧ Q w w' := by
  obtain ⟨i0, hi, hz0, hz1, hz2⟩ := info_parts info3
  obtain ⟨i8, hi8, hz80, hz81, hz82⟩ := info_parts info8
  have hby := Lib.hid (fun w' => lawBytes A n c w' hnc hcm)
  have hby' := Lib.hid (fun w' => lawBytes A' n' c' w' hnc' hcm')
  rw [← hK] at hby
  rw [← hK'] at hby'
  have hKc : K ≤ c := by omega
  have hK1 : K ≤ 2500 := by omega
  have hKc' : K' ≤ c' := by omega
  have hK1' : K' ≤ 2500 := by omega
  have hto := Lib.hid (fun l m b p w' => lawTo l m b p w')
  have HR := Lib.hid (fun t => (RuleAt.new w l m b p t).drew)
  obtain ⟨ru, hru, hrm, hta⟩ := tame_any l m b p hp
  have hta := Lib.hid hta
  have HSZ : Hid (∀ w', Q w w' → Calls Try.prog 19 #[ruleV ru.least ru.most ru.bits ru.m, .slice A K c] w' (SzOut w' (ru.sizes x) 0)) := fun w' hq => by
    have h := sizes_law ru A c x w' hru hrm ((hs.below hq).more (fun g hg => Nat.lt_of_lt_of_le hg hq.size)) hx (by omega)
    rw [hlk] at h; exact h
  have HSZ' : Hid (∀ w', Q w w' → Calls Try.prog 19 #[ruleV ru.least ru.most ru.bits ru.m, .slice A' K' c'] w' (SzOut w' (ru.sizes x') 0)) := fun w' hq => by
    have h := sizes_law ru A' c' x' w' hru hrm ((hs'.below hq).more (fun g hg => Nat.lt_of_lt_of_le hg hq.size)) hx' (by omega)
    rw [hlk'] at h; exact h
  have hls : (ru.sizes x).length ≤ 2500 := by have := sizes_len ru hru x; omega
  have hls' : (ru.sizes x').length ≤ 2500 := by have := sizes_len ru hru x'; omega
  have HSUM := Lib.hid ((ru.sizes_sum x).trans hlk)
  have HBEH := Lib.hid (ru.sizes_behind x x')
  have HS := Lib.hid hs
  have HS' := Lib.hid hs'
  have HX := Lib.hid hx
  have HX' := Lib.hid hx'
  have HL := Lib.hid hlk
  have HL' := Lib.hid hlk'
  have HA := Lib.hid hA
  have HA' := Lib.hid hA'
  have HSZX : Hid (∀ (T : Option Addr) (n z : Nat) (L : List Nat) (w' : World), L.length = n → SeesP w' (· < w'.heap.size) T (L.map B8) → (∀ y ∈ L, y ≤ 255) → n ≤ 1000000 → Calls Try.prog 19 #[ruleV ru.least ru.most ru.bits ru.m, .slice T n z] w' (SzOut w' (ru.sizes L) 0)) :=
    fun T n z L w' h0 h1 h2 h3 => by subst h0; exact sizes_law ru T z L w' hru hrm h1 h2 h3
  obtain ⟨s, hsz⟩ : ∃ s, s = ru.sizes x := ⟨_, rfl⟩
  obtain ⟨s', hsz'⟩ : ∃ s, s = ru.sizes x' := ⟨_, rfl⟩
  rw [← hsz] at HSZ HSUM HBEH hls
  rw [← hsz'] at HSZ' HBEH hls'
  obtain ⟨ns, hns⟩ : ∃ ns, ns = s.length := ⟨_, rfl⟩
  obtain ⟨ns', hns'⟩ : ∃ ns, ns = s'.length := ⟨_, rfl⟩
  have HNS := Lib.hid hns
  have HNS' := Lib.hid hns'
  rw [← hns] at hls HBEH
  rw [← hns'] at hls'
  clear hs hx hlk hK hns hs' hx' hlk' hK' hns' hsz hsz' hA hA'
  unfold ruleV at hto hta HSZ HSZ' HSZX ⊢
  go_enter Try.func6, Try.ntmps6
  go_upto_region 1 with fail
  go_cut [1, 2] (fun bv bw wx => bv = .slice A K c ∧ bw = .slice A' K' c' ∧ Hid (Tamed w wx ru))
  case first =>

    go_region_with (first
      | (go_at_call 10; first
          | ((with_reducible refine (hby.out _).mono ?_); rintro e w1 ⟨rfl, rfl⟩)
          | ((with_reducible refine (hby'.out _).mono ?_); rintro e w1 ⟨rfl, rfl⟩))
      | (go_at_call 18; go_loud ((with_reducible refine (hta.out _).mono ?_); rintro e w8 ⟨rfl, hq8⟩; have HR8 := (HR.out _).q hq8 (by simp); have f0 := HR8.f0; have f1 := HR8.f1; have f2 := HR8.f2; have f3 := HR8.f3; have d0 := HR8.c0; have d1 := HR8.c1; have d2 := HR8.c2; have d3 := HR8.c3; have HR8 := Lib.hid HR8)))
    all_goals (go_wp2_with fail; go_meet; exact ⟨rfl, rfl, HR8.out.set _ _ _ _, Q.set4 (((Q.refl w).alloc _).drew.step hq8) (Nat.le_refl _) _ _ _ _, by simp [World.setCell]; exact Nat.lt_of_lt_of_le (by simp) hq8.size⟩)
  case rest =>
    obtain ⟨rfl, rfl, HT⟩ := hcut
    have c0 := HT.out.1.c0
    have c1 := HT.out.1.c1
    have c2 := HT.out.1.c2
    have c3 := HT.out.1.c3
    go_wp2_with (first
      | (go_at_call 12; go_loud ((with_reducible refine (hto.out _ _ _ _ _).mono ?_); rintro e w9 ⟨rfl, hq9⟩; have HT9 := Lib.hid (HT.out.step hq9); have hQ9 := HT9.out.2.1; clear hq9 c0 c1 c2 c3))
      | (go_at_call 19; go_loud ((with_reducible refine (HSZ.out _ hQ9).mono ?_); rintro e wa ⟨A1, z1, rfl, hs1, hqa, hz1⟩; have HTa := Lib.hid (HT9.out.step hqa); have HS1 := Lib.hid hs1; clear hs1 hqa hz1; rw [← HNS.out]))
      | (go_at_call 15; (with_reducible refine (lawCuts _).mono ?_); rintro e w5 ⟨rfl, hq5⟩; have HT5 := Lib.hid (HTa.out.step hq5); have HS5 := Lib.hid (HS1.out.belowP (fun _ h => h.2) hq5); have hlt5 : ∀ g, (w9.heap.size ≤ g ∧ g < wa.heap.size) → g < w5.heap.size := (fun g h => Nat.lt_of_lt_of_le h.2 hq5.size); have HLT5 := Lib.hid hlt5; clear hq5 hlt5))
    clear HT9 HTa HS1 HT
    have H0 : Hid (w5.ownsRow w5.heap.size 3 1 (.slice none 0 0) 0 ((s.take 0).map I64)) := by rw [List.take_zero]; exact World.ownsRow_nil _ _ _ _
    go_loopw [9, 10, 11] (fun t v i wr => ∃ k y : Nat, k ≤ ns - 1 ∧ i = .int .i64 k ∧ t = .int .i64 y ∧ Hid (y = (s.take k).sum) ∧ Hid (wr.ownsRow w5.heap.size 3 1 v k ((s.take k).map I64)) ∧ Q w5 wr) (fun _ _ i _ => ns - (intOf i).toNat)
    case atStart => exact ⟨0, 0, by omega, rfl, rfl, by show _ = _; simp, H0.out, Q.refl _⟩
    case round =>
      obtain ⟨k, y, hk, rfl, rfl, HY, HF, hq⟩ := hrel
      have hy1 : y ≤ 2500 := by rw [HY.out]; have := sum_take_le s k; have := HSUM.out; omega
      by_cases hlt : k + 1 < ns
      · have hks : k < s.length := by rw [← HNS.out]; omega
        have HY1 := Lib.hid (sum_take_succ s k hks)
        rw [← HY.out] at HY1
        have HT1 : Hid ((s.take (k + 1)).map I64 = (s.take k).map I64 ++ [.int .i64 (s[k] : Int)]) := by
          show _ = _; rw [List.take_succ_eq_append_getElem hks, List.map_append]; rfl
        have hv : s[k] ≤ 2500 := by have h := HY1.out; have h2 := sum_take_le s (k + 1); have := HSUM.out; omega
        obtain ⟨bb, oo, rfl, hbb, hc⟩ := HS5.out.at_ (k := k) (u := I64 s[k]) (by simp [hks])
        have hc := (hq.cell (p := ⟨bb, oo + k, none⟩) (HLT5.out _ hbb)).trans hc
        generalize s[k] = v at *
        unfold I64 at hc
        have hsz := hq.size
        have hk0 : k < ns := by omega
        clear hbb hks
        go_wp2_with (at_builtin; go_loud (refine wpList_append_one rfl (.tmp 47) (.tmp 52) 43 rfl w5.heap.size 3 i0 (.int .i64 0) 8 Try.underlying43 hi hz0 hz1 hz2 rfl _ k _ rfl HF.out _ _ _ rfl rfl rfl (by unfold maxLen; omega) (by omega) hsz ?_; intro v3 w3 hown3 hgr3 hne3; rw [← HT1.out] at hown3; have H3 := Lib.hid hown3; have hq3 : Q w5 w3 := hgr3.q hq HF.out; clear hown3 hgr3 hne3))
        go_roundw
        case rel => exact ⟨k + 1, y + v, by omega, by go_num, by go_num, HY1.out.symm, H3.out, hq3⟩
        case measure => simp [intOf]; omega
      · obtain rfl : k = ns - 1 := by omega
        have HTr := Lib.hid (HT5.out.step hq)
        obtain ⟨wo, hwo⟩ : ∃ wo : World, wo = wr := ⟨_, rfl⟩
        subst hwo
        go_upto_region 12 with fail
        have hyK : y ≤ K := by rw [HY.out]; have := sum_take_le s (ns - 1); have := HSUM.out; omega
        have hyc : y ≤ c := by omega
        have hy0 : (0 : Int) ≤ (y : Int) := Int.natCast_nonneg _
        have hyci : (y : Int) ≤ (c : Int) := by omega
        have HSA : Hid (SeesP w (· < w.heap.size) A ((x.take y).map B8)) := by rw [List.map_take]; exact HS.out.take y
        have hxl : Hid ((x.take y).length = y) := by show _ = _; rw [List.length_take, HL.out]; omega
        have HR12 : Hid (ru.sizes (x.take y ++ x') = s.take (ns - 1) ++ s') := by show _ = _; rw [HY.out]; exact HBEH.out
        have HX12 : Hid (∀ z ∈ x.take y ++ x', z ≤ 255) := fun z hz => by
          rcases List.mem_append.1 hz with h | h
          · exact HX.out z (List.mem_of_mem_take h)
          · exact HX'.out z h
        have hL12 : (x.take y ++ x').length ≤ 1000000 := by rw [List.length_append, hxl.out, HL'.out]; omega
        generalize x.take y = xa at *
        obtain ⟨S12, hS12⟩ : ∃ S, S = s.take (ns - 1) ++ s' := ⟨_, rfl⟩
        obtain ⟨n12, hn12⟩ : ∃ n, n = S12.length := ⟨_, rfl⟩
        obtain ⟨L12, hL12'⟩ : ∃ L, L = xa ++ x' := ⟨_, rfl⟩
        have HX12 := hL12' ▸ HX12
        rw [← hS12, ← hL12'] at HR12
        rw [← hL12'] at hL12
        have HS12 := Lib.hid hS12
        have HN12 := Lib.hid hn12
        have HL12 := Lib.hid hL12'
        have hn12' : n12 ≤ 6000 := by rw [hn12, hS12, List.length_append, List.length_take, ← HNS'.out]; omega
        have HX12 : Hid (∀ z ∈ L12, z ≤ 255) := HX12
        clear hS12 hn12 hL12'
        go_cut [8, 12] (fun e u wx => e = .int .i64 0 ∧ Hid (∃ A2 z2, u = .slice A2 n12 z2 ∧ SeesP wx (fun g => wo.heap.size ≤ g ∧ g < wx.heap.size) A2 (S12.map I64)) ∧ Hid (Q wo wx))
        case first =>
          have HB : Hid (Bld w wo wo.drew ru (.slice none 0 0) []) := (Bld.begin_ HTr.out).drew
          have d0 := HTr.out.1.c0
          have d1 := HTr.out.1.c1
          have d2 := HTr.out.1.c2
          have d3 := HTr.out.1.c3
          go_region_held3 (fun w' => w'.cell? ⟨w.heap.size, 0, none⟩ = some (.int .i64 ru.least) ∧ w'.cell? ⟨w.heap.size, 1, none⟩ = some (.int .i64 ru.most) ∧ w'.cell? ⟨w.heap.size, 2, none⟩ = some (.int .i64 ru.bits) ∧ w'.cell? ⟨w.heap.size, 3, none⟩ = some (.int .u64 ru.m))
            (first
              | exact ⟨d0, d1, d2, d3⟩
              | exact ⟨HB.out.t.1.c0, HB.out.t.1.c1, HB.out.t.1.c2, HB.out.t.1.c3⟩
              | (have h := (HB.out.made _ rfl).t.1; exact ⟨h.c0, h.c1, h.c2, h.c3⟩))
            (first
              | (go_at_call 12; go_loud ((with_reducible refine (hto.out _ _ _ _ _).mono ?_); rintro e w9 ⟨rfl, hq9⟩; first | replace HB := Lib.hid (HB.out.step hq9) | replace HB := Lib.hid ((HB.out.made _ rfl).step hq9)))
              | ((refine step_append_sees (by rfl) (.tmp 57) (.tmp 60) 25 (by rfl) wo.heap.size 5 i8 _ 1 Try.underlying25 hi8 hz80 hz81 hz82 rfl _ 0 [] (by rfl) (by first | exact (HB.out.made _ rfl).own | exact HB.out.own) (· < w.heap.size) A y c (xa.map B8) (by rfl) HA.out (by rw [List.length_map, hxl.out]) (by first | exact HSA.out.below (HB.out.made _ rfl).t.2.1 | exact HSA.out.below HB.out.t.2.1) (B8_one _) (by unfold maxLen; omega) (by omega) (by first | exact (HB.out.made _ rfl).q.size | exact HB.out.q.size) ?_); intro v1 w1 hown1 hgr1; rw [show 0 + y = ([] : List Nat).length + xa.length by rw [hxl.out]; simp] at hown1; (first | replace HB := Lib.hid ((HB.out.made _ rfl).grew hown1 hgr1) | replace HB := Lib.hid (HB.out.grew hown1 hgr1)); rw [List.nil_append] at HB)
              | ((refine step_append_sees (by rfl) (.tmp 61) (.tmp 62) 25 (by rfl) wo.heap.size 5 i8 _ 1 Try.underlying25 hi8 hz80 hz81 hz82 rfl _ _ _ (by rfl) HB.out.own (· < w.heap.size) A' K' c' (x'.map B8) (by rfl) HA'.out (by rw [List.length_map, HL'.out]) (HS'.out.below HB.out.t.2.1) (B8_one _) (by simp [hxl.out]; unfold maxLen; omega) (by simp [hxl.out]; omega) HB.out.q.size ?_); intro v2 w2 hown2 hgr2; replace HB := Lib.hid (HB.out.grew (by rw [HL'.out]; exact hown2) hgr2); obtain ⟨T2, z2, rfl⟩ := own_form HB.out.own; have HB1 := Lib.hid ((sees_own HB.out.own).more (fun b hb => hb.2) : SeesP w2 (· < w2.heap.size) T2 ((xa ++ x').map B8)); rw [← HL12.out] at HB1)
              | (go_at_call 19; go_loud ((with_reducible refine (HSZX.out T2 _ z2 L12 w2 (by rw [HL12.out, List.length_append]) HB1.out HX12.out (by rw [hxl.out, HL'.out]; omega)).mono ?_); rintro e wa ⟨A2, z2, rfl, hs2, hqa, hz2⟩; have hsz2 := HB.out.q.size; replace HB := Lib.hid (HB.out.step hqa); rw [HR12.out] at hs2 hz2 ⊢; rw [← HN12.out]; have HSS := Lib.hid hs2; clear hs2 hz2)))
          all_goals (go_wp2_with fail; go_meet; exact ⟨rfl, ⟨A2, z2, rfl, HSS.out.more (fun g h => ⟨Nat.le_trans hsz2 h.1, h.2⟩)⟩, HB.out.q⟩)
        case rest =>
          obtain ⟨rfl, HV, HQ⟩ := hcut
          obtain ⟨A2, z2, rfl, hs2⟩ := HV.out
          have HS2 := Lib.hid hs2
          have HTc := Lib.hid (HTr.out.step HQ.out)
          have d0 := HTc.out.1.c0
          have d1 := HTc.out.1.c1
          have d2 := HTc.out.1.c2
          have d3 := HTc.out.1.c3
          have HFc := Lib.hid (own_below HF.out HQ.out)
          clear hs2 HV
          go_wp2_with (first
            | (go_at_call 12; go_loud ((with_reducible refine (hto.out _ _ _ _ _).mono ?_); rintro e w9 ⟨rfl, hq9⟩; have HTd := Lib.hid (HTc.out.step hq9); have HQd := HTd.out.2.1; have hsd := Lib.hid (own_below HFc.out hq9); have HSd := Lib.hid (HS2.out.belowP (fun _ h => h.2) hq9); clear d0 d1 d2 d3))
            | (go_at_call 19; go_loud ((with_reducible refine (HSZ'.out _ HQd).mono ?_); rintro e wa ⟨A3, z3, rfl, hs3, hqa, hz3⟩; have HTe := Lib.hid (HTd.out.step hqa); have HS3 := Lib.hid hs3; rw [← HNS'.out] at hz3 ⊢; have HFe := Lib.hid (own_below hsd.out hqa); have HSe := Lib.hid (HSd.out.belowP (fun _ h => Nat.lt_of_lt_of_le h.2 hq9.size) hqa); have hsze : w5.heap.size ≤ wa.heap.size := Nat.le_trans hq.size (Nat.le_trans HQ.out.size (Nat.le_trans hq9.size hqa.size)); clear hs3))
            | (at_builtin; go_loud (refine guard_off (by rfl) ?_; refine wpList_append_row rfl (.tmp 82) (.tmp 83) 43 rfl w5.heap.size 3 i0 (.int .i64 0) 8 Try.underlying43 hi hz0 hz1 hz2 rfl _ (ns - 1) _ rfl HFe.out _ A3 ns' z3 (s'.map I64) rfl hz3.2 (by rw [List.length_map, HNS'.out]) HS3.out (by intro u hu; obtain ⟨_, _, rfl⟩ := List.mem_map.1 hu; rfl) (by unfold maxLen; omega) (by omega) hsze ?_; intro v4 w4 hown4 hgr4; obtain ⟨B4, z4, rfl⟩ := own_form hown4; have HE4 := Lib.hid (hgr4.sees HSe.out (fun g hg => ⟨Nat.lt_of_lt_of_le hg.2 (Nat.le_trans hq9.size hqa.size), fun hv => by have := own_lt HF.out g hv; omega⟩)); have HF4 := Lib.hid (sees_own hown4); have HQ4 := Lib.hid (hgr4.q HTe.out.2.1 (own_mono HFe.out (Nat.le_of_lt (Nat.lt_of_lt_of_le HT5.out.2.2 (Nat.le_refl _))))); have HI4 : Hid (Calls Try.prog 21 #[.slice A2 n12 z2, .slice B4 (ns - 1 + ns') z4] w4 fun e w' => e = .returned (.bool true) ∧ Q w4 w') := (by
                 have h := ints_nat A2 B4 z2 z4 _ _ S12 S12 w4 HE4.out (by rw [HS12.out, List.map_append]; exact HF4.out) (by rw [← HN12.out]; omega) (by rw [← HN12.out]; omega)
                 rw [decide_eq_true rfl] at h
                 have e : S12.length = ns - 1 + ns' := by rw [HS12.out, List.length_append, List.length_take, ← HNS.out, ← HNS'.out]; omega
                 rw [← HN12.out] at h
                 rw [← HN12.out] at e
                 rw [← e]; exact h); clear hown4 hgr4))
            | (go_at_call 21; go_loud ((with_reducible refine HI4.out.mono ?_); rintro e w6 ⟨rfl, hq6⟩)))
          go_ret
          exact ⟨rfl, HQ4.out.step hq6⟩

theorem cutBehind_true (l : Int) (wl : (Lit.int .i64 l).wf = true) (m : Int) (wm : (Lit.int .i64 m).wf = true) (b : Int) (wb : (Lit.int .i64 b).wf = true) (a : Int) (wa : (Lit.int .u64 a).wf = true) (A : Option Addr) (n c : Nat) (zs : List Int) (A' : Option Addr) (n' c' : Nat) (zs' : List Int) (w : World) (wA : IsRow .u8 w A n c zs) (wA' : IsRow .u8 w A' n' c' zs') :
    Calls Try.prog 6 #[.agg #[.int .i64 l, .int .i64 m, .int .i64 b, .int .u64 a], .slice A n c, .slice A' n' c'] w fun e w' => e = .returned (.bool true) ∧ Below w.heap.size w w' := by
  obtain ⟨ha, ha'⟩ := wf64 wa
  obtain ⟨p, rfl⟩ := Int.eq_ofNat_of_zero_le ha
  obtain ⟨h1, h2, h3, h4, h5, h6⟩ := row8 wA (min n 2500) (by omega)
  obtain ⟨g1, g2, g3, g4, g5, g6⟩ := row8 wA' (min n' 2500) (by omega)
  exact cutBehind_walk l m b p n c _ n' c' _ A A' _ _ w (by omega) h2 rfl h1 h3 h4 h5 h6 g2 rfl g1 g3 g4 g5 g6
end Go.Proofs.Ytddjccjbbajgaaa
