/- The walks through the reference of chapter 05: One, DocSizes. -/
import Derived.Test.YtddjccjbbajgaaaCutG
namespace Go.Proofs.Ytddjccjbbajgaaa
set_option linter.unusedVariables false
set_option linter.unusedSimpArgs false
open Go.RowKit

/-- The bits behind n bytes say that a piece ends. -/
def Rl.bitsEnd (r : Rl) (l : List Nat) (n : Nat) : Prop := (Pol.roll r.m 0 ((l.take n).drop (n - 64)) + 1) % 2 ^ r.bits = 0
/-- The size of the first piece. -/
def OneIs (r : Rl) (l : List Nat) (n : Nat) : Prop :=
  (r.least ≤ n ∧ n ≤ l.length ∧ n < r.most ∧ r.bitsEnd l n ∧ ∀ k, r.least ≤ k → k < n → ¬ r.bitsEnd l k) ∨ (n = min l.length r.most ∧ ∀ k, r.least ≤ k → k ≤ l.length → k < r.most → ¬ r.bitsEnd l k)
theorem Rl.ends_take (r : Rl) (l : List Nat) (n : Nat) (hn : n ≤ l.length) : r.ends (l.take n) ↔ (n = r.most ∨ (r.least ≤ n ∧ r.bitsEnd l n)) := by
  unfold Rl.ends Rl.bitsEnd
  rw [List.length_take, Nat.min_eq_left hn]
theorem OneIs.first {r : Rl} (hr : r.Right) {l : List Nat} {n : Nat} (hl : l ≠ []) (h : OneIs r l n) : 1 ≤ n ∧ n ≤ l.length ∧ r.pieces l = l.take n :: r.pieces (l.drop n) := by
  have h64 := hr.l64
  have hlm := hr.lm
  have hpos : 0 < l.length := List.length_pos_iff.2 hl
  rcases h with ⟨h1, h2, h3, h4, h5⟩ | ⟨h1, h2⟩
  · refine ⟨by omega, h2, r.pieces_first (by omega) h2 ((r.ends_take l n h2).2 (.inr ⟨h1, h4⟩)) (fun k hk1 hk2 hk => ?_)⟩
    rcases (r.ends_take l k (by omega)).1 hk with h | ⟨h, h'⟩
    · omega
    · exact h5 k h hk2 h'
  · have hno : ∀ k, 1 ≤ k → k ≤ l.length → k < r.most → ¬ r.ends (l.take k) := fun k hk1 hk2 hk3 hk => by
      rcases (r.ends_take l k hk2).1 hk with h | ⟨h, h'⟩
      · omega
      · exact h2 k h hk2 hk3 h'
    rcases Nat.lt_or_ge l.length r.most with h3 | h3
    · have hn : n = l.length := by omega
      subst hn
      refine ⟨hpos, Nat.le_refl _, ?_⟩
      rw [List.take_length, List.drop_length, r.pieces_nil]
      exact r.pieces_none hl (fun k hk1 hk2 => hno k hk1 hk2 (by omega))
    · have hn : n = r.most := by omega
      subst hn
      exact ⟨by omega, h3, r.pieces_first (by omega) h3 ((r.ends_take l _ h3).2 (.inl rfl)) (fun k hk1 hk2 => hno k hk1 (by omega) hk2)⟩

/-- What One leaves. -/
def OneOut (w : World) (ru : Rl) (l : List Nat) (e : Ending) (w' : World) : Prop := ∃ n, e = .returned (I64 n) ∧ OneIs ru l n ∧ Q w w'

set_option maxHeartbeats 16000000 in
set_option maxRecDepth 100000 in
theorem one_ok (ru : Rl) (A : Option Addr) (c : Nat) (ok : Nat → Prop) (l : List Nat) (w : World) (hr : ru.Right) (hm : ru.m ≤ 18446744073709551615) (hs : SeesP w ok A (l.map B8)) (hok : ∀ g, ok g → g < w.heap.size) (hx : ∀ x ∈ l, x ≤ 255) (hl : l.length ≤ 1000000) (hlc : l.length ≤ c) :
    Calls Try.prog 27 #[ruleV ru.least ru.most ru.bits ru.m, .slice A l.length c] w (OneOut w ru l) := by
  obtain ⟨i0, hi, hz0, hz1, hz2⟩ := info_parts info8
  have hm0 : ru.m ≠ 0 := Pol.len_pos.1 (by have := hr.deg; omega)
  have hlm : 9 ≤ Pol.len ru.m := by have := hr.deg; omega
  obtain ⟨h1, h2, h3, h4, h5, _⟩ := hr
  have HS := Lib.hid hs
  have HOK := Lib.hid hok
  have HX := Lib.hid hx
  obtain ⟨n, hn⟩ : ∃ n, n = l.length := ⟨_, rfl⟩
  have HN := Lib.hid hn
  rw [← hn] at hl hlc
  rw [← hn]
  clear hs hok hx hn
  have HSUM : Hid (∀ t : List Nat, Pol.roll ru.m 0 t ≤ 9223372036854775807) := fun t => by
    have h := Pol.roll_len ru.m hm0 t 0 (by rw [Pol.len_zero]; omega)
    have h64 := Pol.len_le64 hm
    have h63 := Pol.lt_len (Pol.roll ru.m 0 t)
    have := Nat.pow_le_pow_right (show 1 ≤ 2 by omega) (show Pol.len (Pol.roll ru.m 0 t) ≤ 63 by omega)
    omega
  have hpow : 2 ^ ru.bits ≤ 2 ^ 20 := Nat.pow_le_pow_right (by omega) h5
  have hpow1 : 1 ≤ 2 ^ ru.bits := Nat.two_pow_pos ru.bits
  have hpi : (1 : Int) ≤ (2 : Int) ^ ru.bits := by exact_mod_cast hpow1
  have hsh : IntKind.u64.wrap (2 ^ ru.bits : Int) = ((2 ^ ru.bits : Nat) : Int) := shl_one (by omega)
  unfold ruleV
  go_enter Try.func27, Try.ntmps27
  go_wp2_with fail
  have HC : Hid (∀ w', Q (w.alloc (.cells #[.int .i64 ru.least, .int .i64 ru.most, .int .i64 ru.bits, .int .u64 ru.m] 24)) w' → w'.cell? ⟨w.heap.size, 1, none⟩ = some (.int .i64 ru.most) ∧ w'.cell? ⟨w.heap.size, 2, none⟩ = some (.int .i64 ru.bits) ∧ w'.cell? ⟨w.heap.size, 3, none⟩ = some (.int .u64 ru.m)) := fun w' hq => by
    refine ⟨?_, ?_, ?_⟩ <;> (rw [hq.cell (by simp)]; go_simp)
  have HB : Hid (∀ k, ru.least ≤ k → k < ru.least → ¬ ru.bitsEnd l k) := fun k h1 h2 => by omega
  go_loopw [5] (fun i wr => ∃ k : Nat, ru.least ≤ k ∧ k ≤ n + ru.least ∧ i = .int .i64 k ∧ Hid (∀ j, ru.least ≤ j → j < k → ¬ ru.bitsEnd l j) ∧ Q (w.alloc (.cells #[.int .i64 ru.least, .int .i64 ru.most, .int .i64 ru.bits, .int .u64 ru.m] 24)) wr) (fun i _ => n + ru.least - (intOf i).toNat)
  case atStart => exact ⟨ru.least, by omega, by omega, rfl, HB.out, Q.refl _⟩
  case round =>
    obtain ⟨k, hk1, hk2, rfl, HK, hq⟩ := hrel
    obtain ⟨c1, c2, c3⟩ := HC.out wr hq
    have hq0 : Q w wr := ((Q.refl w).alloc _).step hq
    by_cases hlt : k ≤ n ∧ k < ru.most
    · obtain ⟨hlt, hlt2⟩ := hlt
      obtain ⟨s, hs⟩ : ∃ s, s = Pol.roll ru.m 0 ((l.take k).drop (k - 64)) := ⟨_, rfl⟩
      have hs63 : s ≤ 9223372036854775807 := hs ▸ HSUM.out _
      have hend : ru.bitsEnd l k ↔ (s + 1) % 2 ^ ru.bits = 0 := by unfold Rl.bitsEnd; rw [hs]
      obtain ⟨b, o, rfl, hb, _⟩ := HS.out.at_ (k := 0) (u := B8 (l[0]'(by have := HN.out; omega))) (by rw [List.getElem?_map, List.getElem?_eq_getElem (by have := HN.out; omega)]; rfl)
      have HCA : cutA (some ⟨b, o, none⟩) c (k - 64) 1 = some ⟨b, o + (k - 64), none⟩ := by
        unfold cutA
        rw [if_neg (by omega), Option.map_some, Nat.mul_one, add_addr]
      have HD : Hid (∀ w', Q w w' → Calls Try.prog 34 #[.int .u64 (ru.m : Int), .slice (some ⟨b, o + (k - 64), none⟩) (k - (k - 64)) (c - (k - 64))] w' fun e w2 => e = .returned (.tuple #[.int .u64 (s : Nat), .int .i64 0]) ∧ Q w' w2) := by
        intro w' hq'
        have h1 := ((HS.out.keep (fun p hp => hq'.cell (HOK.out _ hp))).take k)
        rw [← List.map_take] at h1
        have h2 := h1.cut (c := c) (l := k - 64) (s := 1) (by rw [List.length_map, List.length_take]; omega)
        rw [Nat.mul_one, ← List.map_drop, HCA] at h2
        have h := docOf_ok ru.m (some ⟨b, o + (k - 64), none⟩) (c - (k - 64)) ok ((l.take k).drop (k - 64)) w' hm hlm h2 (fun g hg => Nat.lt_of_lt_of_le (HOK.out g hg) hq'.size) (by rw [List.length_drop, List.length_take]; omega) (fun x hx => HX.out x (List.mem_of_mem_take (List.mem_of_mem_drop hx)))
        rw [show ((l.take k).drop (k - 64)).length = k - (k - 64) by rw [List.length_drop, List.length_take]; have := HN.out; omega, ← hs] at h
        exact h
      have hsi : ((k : Int) - 64) = ((k - 64 : Nat) : Int) := by omega
      have HSI := Lib.hid hsi
      clear hs hsi HCA hb
      go_wp2_with fail
      have e1 : IntKind.i64.wrap ((k : Int) - 64) = (k : Int) - 64 := IntWalk.i64_in _ (by omega)
      have e2 : (0 : Int) ≤ (k : Int) - 64 := by omega
      have e3 : ((k : Int) - 64).toNat = k - 64 := by omega
      have e4 : (k : Int) ≤ (c : Int) := by omega
      have e5 : (k : Int) - 64 ≤ (k : Int) := by omega
      have e6 : (0 : Int) ≤ (k : Int) := by omega
      have e7 : ¬ c = k - 64 := by omega
      have e8 : (64 : Int) ≤ (k : Int) := by omega
      have e9 : k ≤ c := by omega
      have e10 : 64 ≤ k := by omega
      go_region_held3 (fun w' => w'.cell? ⟨w.heap.size, 3, none⟩ = some (.int .u64 ru.m))
        (first | exact c3 | exact c35 | go_keep)
        ((go_at_call 34; go_loud ((with_reducible refine (HD.out _ hq0.drew).mono ?_); rintro e w5 ⟨rfl, hq5⟩; have c35 : w5.cell? ⟨w.heap.size, 3, none⟩ = some (.int .u64 ru.m) := (HC.out w5 (hq.drew.step hq5)).2.2)))
      have hqE : Q (w.alloc (.cells #[.int .i64 ru.least, .int .i64 ru.most, .int .i64 ru.bits, .int .u64 ru.m] 24)) w5 := hq.drew.step hq5
      obtain ⟨c51, c52, c53⟩ := HC.out w5 hqE
      have hq05 : Q w w5 := ((Q.refl w).alloc _).step hqE
      have hcast : ((s : Int) + 1) % (2 : Int) ^ ru.bits = (((s + 1) % 2 ^ ru.bits : Nat) : Int) := by push_cast; rfl
      by_cases hc0 : (s + 1) % 2 ^ ru.bits = 0
      · have hd1 : (((s : Int) + 1) % (2 : Int) ^ ru.bits == 0) = true := by rw [hcast, hc0]; rfl
        have HE := Lib.hid (hend.2 hc0)
        clear hcast hc0 hend e1 e2 e3 e4 e5 e6 e7 e8 e9 e10
        go_wp2
        go_ret
        exact ⟨k, rfl, .inl ⟨hk1, by rw [← HN.out]; exact hlt, hlt2, HE.out, HK.out⟩, hq05⟩
      · have hd1 : (((s : Int) + 1) % (2 : Int) ^ ru.bits == 0) = false := by rw [hcast]; exact beq_eq_false_iff_ne.2 (by omega)
        have HE := Lib.hid (fun h => hc0 (hend.1 h))
        clear hcast hc0 hend e1 e2 e3 e4 e5 e6 e7 e8 e9 e10
        go_wp2
        go_roundw
        case rel => exact ⟨k + 1, by omega, by omega, by go_num, (fun j h1 h2 => by
          rcases Nat.lt_or_ge j k with h | h
          · exact HK.out j h1 h
          · obtain rfl : j = k := by omega
            exact HE.out), hqE⟩
        case measure => simp [intOf]; omega
    · obtain ⟨mn, hmn⟩ : ∃ mn, mn = min n ru.most := ⟨_, rfl⟩
      have HM := Lib.hid hmn
      have HO : Hid (OneIs ru l mn) := .inr ⟨by rw [HM.out, HN.out], fun j h1 h2 h3 => HK.out j h1 (by have := HN.out; omega)⟩
      clear hmn
      by_cases hkn : k ≤ n
      · have hkm : ¬ k < ru.most := fun h => hlt ⟨hkn, h⟩
        clear hlt
        go_wp2_with (refine gate 45 rfl ?_; refine wpList_min2 rfl (.tmp 42) (.tmp 44) _ rfl .i64 n ru.most mn rfl rfl HM.out ?_)
        go_ret
        exact ⟨mn, rfl, HO.out, hq0⟩
      · clear hlt
        go_wp2_with (refine gate 45 rfl ?_; refine wpList_min2 rfl (.tmp 42) (.tmp 44) _ rfl .i64 n ru.most mn rfl rfl HM.out ?_)
        go_ret
        exact ⟨mn, rfl, HO.out, hq0⟩

def lenV : Value → Nat
  | .slice _ n _ => n
  | _ => 0
theorem OneIs.sizes {r : Rl} (hr : r.Right) {l : List Nat} {n : Nat} (hl : l ≠ []) (h : OneIs r l n) : r.sizes l = n :: r.sizes (l.drop n) := by
  obtain ⟨h1, h2, h3⟩ := h.first hr hl
  unfold Rl.sizes
  rw [h3, List.map_cons, List.length_take, Nat.min_eq_left h2]
theorem Rl.sizes_nil (r : Rl) : r.sizes [] = [] := by unfold Rl.sizes; rw [r.pieces_nil]; rfl

/-- What DocSizes leaves. -/
def DocSizesOut (w : World) (ru : Rl) (l : List Nat) (e : Ending) (w' : World) : Prop :=
  ∃ v, e = .returned (.tuple #[v, .int .i64 0]) ∧ w'.ownsRow w.heap.size 3 1 v (ru.sizes l).length ((ru.sizes l).map I64) ∧ Q w w'

set_option maxHeartbeats 4000000 in
set_option maxRecDepth 100000 in
theorem docSizes_bad (l m b : Int) (p : Nat) (A : Option Addr) (n c : Nat) (w : World) (hp : p ≤ 18446744073709551615) (h : ¬ RuleOk l m b p) :
    Calls Try.prog 20 #[ruleV l m b p, .slice A n c] w fun e w' => e = .returned (.tuple #[.slice none 0 0, .int .i64 1]) ∧ Q w w' := by
  have hr := Lib.hid (fun w' => refRight_nat l m b p w' hp)
  rw [decide_eq_false h] at hr
  unfold ruleV at hr ⊢
  go_enter Try.func20, Try.ntmps20
  go_wp2_with (go_at_call 16; (with_reducible refine (hr.out _).mono ?_); rintro e w' ⟨rfl, hq⟩)
  go_ret2
  exact ⟨rfl, ((Q.refl w).alloc _).step hq⟩

set_option maxHeartbeats 16000000 in
set_option maxRecDepth 100000 in
theorem docSizes_ok (ru : Rl) (A : Option Addr) (c : Nat) (ok : Nat → Prop) (l : List Nat) (w : World) (hr : ru.Right) (hm : ru.m ≤ 18446744073709551615) (hs : SeesP w ok A (l.map B8)) (hok : ∀ g, ok g → g < w.heap.size) (hx : ∀ x ∈ l, x ≤ 255) (hl : l.length ≤ 1000000) (hlc : l.length ≤ c) (hcm : c ≤ 9223372036854775807) :
    Calls Try.prog 20 #[ruleV ru.least ru.most ru.bits ru.m, .slice A l.length c] w (DocSizesOut w ru l) := by
  obtain ⟨i0, hi, hz0, hz1, hz2⟩ := info_parts info3
  obtain ⟨i8, hi8, hz80, hz81, hz82⟩ := info_parts info8
  have hri := Lib.hid (fun w' => refRight_nat ru.least ru.most ru.bits ru.m w' hm)
  rw [decide_eq_true (show RuleOk ru.least ru.most ru.bits ru.m from ⟨by have := hr.l64; omega, by have := hr.lm; omega, by have := hr.m16; omega, by have := hr.b1; omega, by have := hr.b20; omega, hr.deg⟩)] at hri
  have HS := Lib.hid hs
  have HOK := Lib.hid hok
  have HX := Lib.hid hx
  obtain ⟨n, hn⟩ : ∃ n, n = l.length := ⟨_, rfl⟩
  have HN := Lib.hid hn
  rw [← hn] at hl hlc
  rw [← hn]
  obtain ⟨wx, hwx⟩ : ∃ wx, wx = w.alloc (.cells #[.int .i64 ru.least, .int .i64 ru.most, .int .i64 ru.bits, .int .u64 ru.m] 24) := ⟨_, rfl⟩
  have hxs : wx.heap.size = w.heap.size + 1 := by rw [hwx]; simp
  have qx : Q w wx := by rw [hwx]; exact (Q.refl w).alloc _
  have HC : Hid (∀ w', Q wx w' → w'.cell? ⟨w.heap.size, 0, none⟩ = some (.int .i64 ru.least) ∧ w'.cell? ⟨w.heap.size, 1, none⟩ = some (.int .i64 ru.most) ∧ w'.cell? ⟨w.heap.size, 2, none⟩ = some (.int .i64 ru.bits) ∧ w'.cell? ⟨w.heap.size, 3, none⟩ = some (.int .u64 ru.m)) := fun w' hq => by
    subst hwx
    refine ⟨?_, ?_, ?_, ?_⟩ <;> (rw [hq.cell (by simp)]; go_simp)
  have HWX := Lib.hid hwx
  have HXS := Lib.hid hxs
  clear hs hok hx hn hwx hxs
  unfold ruleV at hri ⊢
  go_enter Try.func20, Try.ntmps20
  go_wp2_with (go_at_call 16; (with_reducible refine (hri.out _).mono ?_); rintro e w1 ⟨rfl, hq1⟩)
  have q1 : Q wx w1 := by rw [HWX.out]; exact hq1
  have HI : Hid (∃ s, ru.sizes l = s ++ ru.sizes (l.drop 0) ∧ s.length ≤ 0 ∧ w1.ownsRow wx.heap.size 3 1 (.slice none 0 0) s.length (s.map I64)) := ⟨[], by simp, by simp, World.ownsRow_nil _ _ _ _⟩
  have HS0 : Hid (SeesP w ok A ((l.drop 0).map B8)) := by rw [List.drop_zero]; exact HS.out
  clear hq1
  go_loopw [1, 6, 7] (fun x v _ wr => ∃ (d t : Nat) (B : Option Addr), d + t = n ∧ d ≤ c ∧ x = .slice B t (c - d) ∧ Hid (SeesP w ok B ((l.drop d).map B8)) ∧ Hid (∃ s, ru.sizes l = s ++ ru.sizes (l.drop d) ∧ s.length ≤ d ∧ wr.ownsRow wx.heap.size 3 1 v s.length (s.map I64)) ∧ Q wx wr) (fun x _ _ _ => lenV x)
  case atStart => exact ⟨0, n, A, by omega, by omega, rfl, HS0.out, HI.out, q1⟩
  case round =>
    obtain ⟨d, t, B, hdt, hdc, rfl, HB, HV, hq⟩ := hrel
    obtain ⟨c0, c1, c2, c3⟩ := HC.out wr hq
    have hq0 : Q w wr := qx.step hq
    have hlen : (l.drop d).length = t := by rw [List.length_drop, ← HN.out]; omega
    have HLEN := Lib.hid hlen
    clear hlen
    by_cases ht : 0 < t
    · have hne : l.drop d ≠ [] := by rw [← List.length_pos_iff, HLEN.out]; exact ht
      have hone := Lib.hid (one_ok ru B (c - d) ok (l.drop d) wr hr hm (HB.out.keep (fun p hp => hq0.cell (HOK.out _ hp))) (fun g hg => Nat.lt_of_lt_of_le (HOK.out g hg) hq0.size) (fun x hx => HX.out x (List.mem_of_mem_drop hx)) (by rw [HLEN.out]; omega) (by rw [HLEN.out]; omega))
      rw [HLEN.out] at hone
      unfold ruleV at hone
      obtain ⟨s, hs1, hs2, hs3⟩ := HV.out
      have H1 := Lib.hid hs1
      have H3 := Lib.hid hs3
      have H2 := hs2
      clear hs1 hs2 hs3
      go_wp2_with (first
        | (go_at_call 27; go_loud ((with_reducible refine hone.out.mono ?_); rintro e w2 ⟨m, rfl, hm1, hq2⟩; have HM := Lib.hid (OneIs.first hr hne hm1); have HMS := Lib.hid (OneIs.sizes hr hne hm1); have hmt : m ≤ t := (by have := HM.out.2.1; rw [HLEN.out] at this; exact this); have hm1' : 1 ≤ m := HM.out.1; have H4 := Lib.hid (own_below H3.out hq2); have qD : Q wx w2 := hq.step hq2; have qE : Q w w2 := hq0.step hq2; have hsz := qD.size; clear hm1 hq2; unfold I64))
        | (at_builtin; go_loud (refine wpList_append_one rfl (.tmp 17) (.tmp 19) 43 rfl wx.heap.size 3 i0 (.int .i64 0) 8 Try.underlying43 hi hz0 hz1 hz2 rfl _ s.length _ rfl H4.out _ _ _ rfl rfl rfl (by unfold maxLen; omega) (by omega) hsz ?_; intro v3 w3 hown3 hgr3 hne3; have H5 := Lib.hid hown3; have qF : Q wx w3 := hgr3.q qD H4.out; clear hown3 hgr3 hne3))
        | (refine gate 23 rfl ?_; refine wpList_slice_lo rfl 25 (.tmp 21) (.tmp 22) rfl 5 Try.underlying25 i8 hi8 1 hz81 _ _ _ rfl .i64 m rfl hmt ?_))
      go_roundw
      case rel => exact ⟨d + m, t - m, cutA B (c - d) m 1, by omega, by omega, by rw [show c - d - m = c - (d + m) by omega], by
        have h := HB.out.cut (c := c - d) (l := m) (s := 1) (by rw [List.length_map, HLEN.out]; omega)
        rw [Nat.mul_one, ← List.map_drop, List.drop_drop] at h
        exact h, ⟨s ++ [m], by rw [H1.out, HMS.out, List.drop_drop]; simp, by simp; omega, by rw [List.length_append, List.map_append]; exact H5.out⟩, qF⟩
      case measure => show t - m < t; omega
    · obtain rfl : t = 0 := by omega
      have h0 : l.drop d = [] := List.eq_nil_of_length_eq_zero HLEN.out
      obtain ⟨s, hs1, hs2, hs3⟩ := HV.out
      rw [h0, ru.sizes_nil, List.append_nil] at hs1
      have HV2 := Lib.hid hs3
      have H1 := Lib.hid hs1
      clear hs3 hs1 h0
      go_wp2_with fail
      go_ret2
      exact ⟨_, rfl, by rw [H1.out]; exact own_mono HV2.out (by have := HXS.out; omega), hq0⟩
end Go.Proofs.Ytddjccjbbajgaaa
