/- The walks through the document's answers of chapter 3, further: products and rests of lists. -/
import Derived.Test.YtgilaklgpopjeaaPolF
namespace Go.Proofs.Ytgilaklgpopjeaa
open Go.RowKit

/-- Block g holds the lowest n coefficients of p. -/
def Bits (w : World) (g n p : Nat) : Prop := ∃ m f, n ≤ m ∧ w.rowIs g 4 m f ∧ ∀ i, i < n → f i = .bool (p.testBit i)
theorem Bits.cell {w : World} {g n p i : Nat} (h : Bits w g n p) (hi : i < n) : w.cell? ⟨g, i, none⟩ = some (.bool (p.testBit i)) := by
  obtain ⟨m, f, hm, hr, hf⟩ := h
  rw [hr.cell (by omega), hf i hi]
theorem Bits.frozen {w : World} {g n p : Nat} (h : Bits w g n p) (i : Nat) : w.frozen? ⟨g, i, none⟩ = false := by
  obtain ⟨m, f, hm, hr, hf⟩ := h
  exact hr.frozen i
theorem Bits.lt {w : World} {g n p : Nat} (h : Bits w g n p) : g < w.heap.size := by
  obtain ⟨m, f, hm, hr, hf⟩ := h
  exact hr.lt
theorem Bits.toggle {w : World} {g n p : Nat} (h : Bits w g n p) (j : Nat) : Bits (w.setCell ⟨g, j, none⟩ (.bool (!p.testBit j))) g n (p ^^^ 2 ^ j) := by
  obtain ⟨m, f, hm, hr, hf⟩ := h
  refine ⟨m, _, hm, hr.set j (.bool (!p.testBit j)), fun i hi => ?_⟩
  show (if i = j then _ else _) = _
  rw [Pol.toggle]
  by_cases e : i = j
  · rw [if_pos e, if_pos e]
  · rw [if_neg e, if_neg e]; exact hf i hi
theorem Bits.other {w : World} {g n p : Nat} (h : Bits w g n p) {a : Addr} (ha : g ≠ a.block) (v : Value) : Bits (w.setCell a v) g n p := by
  obtain ⟨m, f, hm, hr, hf⟩ := h
  exact ⟨m, f, hm, hr.setOther ha v, hf⟩
theorem Bits.alloc {w : World} {g n p : Nat} (h : Bits w g n p) (o : Obj) : Bits (w.alloc o) g n p := by
  obtain ⟨m, f, hm, hr, hf⟩ := h
  exact ⟨m, f, hm, hr.alloc o, hf⟩
theorem Bits.below {w w' : World} {g n p B : Nat} (h : Bits w g n p) (hb : Below B w w') (hg : g < B) : Bits w' g n p := by
  obtain ⟨m, f, hm, hr, hf⟩ := h
  exact ⟨m, f, hm, hr.of_block (hb.block g hg), hf⟩
theorem Bits.drewN {w : World} {g n p : Nat} (h : Bits w g n p) (k : Nat) : Bits (w.drewN k) g n p := h
theorem Bits.made (w : World) (n : Nat) : Bits (w.alloc (.cells (madeCells #[.bool false] n) 4)) w.heap.size n 0 :=
  ⟨n, _, Nat.le_refl _, World.rowIs_made w (.bool false) n 4, fun i _ => by simp⟩
theorem Bits.sees {w : World} {g n p : Nat} (h : Bits w g n p) {ok : Nat → Prop} (hok : ok g) : SeesP w ok (some ⟨g, 0, none⟩) (bitsL p n) := fun _ =>
  ⟨g, 0, rfl, hok, fun j u hu => by
    have hj : j < n := by have := (List.getElem?_eq_some_iff.1 hu).1; rwa [bitsL_len] at this
    rw [bitsL_get hj] at hu
    rw [Nat.zero_add, h.cell hj]; exact hu⟩

set_option maxHeartbeats 4000000 in
theorem product_nat (a b : Nat) (w : World) (ha : a ≤ 18446744073709551615) (hb : b ≤ 18446744073709551615) :
    Calls Try.prog 27 #[.int .u64 (a : Int), .int .u64 (b : Int)] w fun e w' => ∃ g, e = .returned (.slice (some ⟨g, 0, none⟩) 128 128) ∧ w.heap.size ≤ g ∧ Bits w' g 128 (Pol.mul a b) ∧ Q w w' := by
  obtain ⟨i0, hi, hz0, hz1, hz2⟩ := info_parts infoBool
  have hla := Pol.len_le64 ha
  have hlb := Pol.len_le64 hb
  go_enter Try.func27, Try.ntmps27
  go_wp2_with fail
  (with_reducible refine (list_nat _ _ ha).mono ?_); rintro e w1 ⟨A, c, rfl, _, hs1, hq1⟩
  go_wp2_with fail
  (with_reducible refine (list_nat _ _ hb).mono ?_); rintro e w2 ⟨B, d, rfl, _, hs2, hq2⟩
  go_wp2_with (refine wpList_make_row _ rfl _ _ 48 rfl 4 i0 (.bool false) Try.underlying48 hi hz0 hz1 rfl .i64 .i64 128 rfl rfl (by rw [hz2]; omega) (by omega) ?_)
  have hs1' : SeesP w2 (fun g => g < w2.heap.size) A (bitsL a (Pol.len a)) := (hs1.belowP (fun _ h => h.2) hq2).more fun g h => Nat.lt_of_lt_of_le h.2 hq2.size
  have hs2' : SeesP w2 (fun g => g < w2.heap.size) B (bitsL b (Pol.len b)) := hs2.more fun g h => h.2
  have HS1 := Lib.hid hs1'
  have HS2 := Lib.hid hs2'
  have hq : Q w w2 := hq1.step hq2
  have hg0 := hq.size
  clear hs1 hs2 hs1' hs2' hq1 hq2
  go_loopw [8, 9] (fun i _ wr => ∃ k : Nat, k ≤ Pol.len a ∧ i = .int .i64 k ∧ Bits wr w2.heap.size 128 (Pol.mul (a % 2 ^ k) b) ∧ Below w2.heap.size w2 wr) (fun i _ _ => 64 - (intOf i).toNat)
  case atStart => exact ⟨0, by omega, rfl, by rw [Nat.pow_zero, Nat.mod_one, Pol.zero_mul]; exact Bits.made w2 128, (Below.refl _ _).alloc (Nat.le_refl _) _⟩
  case round =>
    obtain ⟨k, hk, rfl, hbits, hbel⟩ := hrel
    by_cases hlt : k < Pol.len a
    · have hpn := Lib.hid (Pol.prod_next a b k)
      obtain ⟨ba, oa, rfl, hba, hca⟩ := (HS1.out.below hbel).at_ (bitsL_get hlt)
      generalize hta : a.testBit k = ta at *
      have Hta := Lib.hid hta
      clear hta
      go_wp2
      go_loopw [9] (fun j wi => ∃ m : Nat, m ≤ Pol.len b ∧ j = .int .i64 m ∧ Bits wi w2.heap.size 128 (Pol.mul (a % 2 ^ k) b ^^^ (if ta then (b % 2 ^ m) * 2 ^ k else 0)) ∧ Below w2.heap.size w2 wi) (fun j _ => 64 - (intOf j).toNat)
      case atStart => exact ⟨0, by omega, rfl, by rw [Nat.pow_zero, Nat.mod_one]; simpa using hbits, hbel⟩
      case round =>
        obtain ⟨m, hm, rfl, hbi, hbeli⟩ := hrel
        by_cases hlm : m < Pol.len b
        · obtain ⟨bb, ob, rfl, hbb, hcb⟩ := (HS2.out.below hbeli).at_ (bitsL_get hlm)
          have hca' : _ = _ := (hbeli.cell (p := ⟨ba, oa + k, none⟩) hba).trans (hbel.cell (p := ⟨ba, oa + k, none⟩) hba).symm |>.trans hca
          have hsn := Pol.shift_next b k m
          generalize htb : b.testBit m = tb at *
          have hc1 := hbi.cell (i := k + m) (by omega)
          have hc2 := hbi.frozen (k + m)
          have hto := Lib.hid (hbi.toggle (k + m))
          generalize hacc : (Pol.mul (a % 2 ^ k) b ^^^ if ta = true then b % 2 ^ m * 2 ^ k else 0) = acc at *
          have Hsn := Lib.hid hsn
          have Hacc := Lib.hid hacc
          have Hbi := Lib.hid hbi
          clear hsn htb hacc hca hbi
          generalize hnt : acc.testBit (k + m) = nt at *
          have Hnt := Lib.hid hnt
          clear hnt
          cases ta with
          | false =>
            go_wp2
            go_roundw
            case rel => exact ⟨m + 1, by omega, by go_num, by have := Hacc.out; simp at this ⊢; rw [this]; exact Hbi.out, hbeli⟩
            case measure => simp [intOf]; omega
          | true =>
            cases tb with
            | false =>
              go_wp2
              go_roundw
              case rel => exact ⟨m + 1, by omega, by go_num, by have h1 := Hacc.out; have h2 := Hsn.out; simp at h1 h2 ⊢; rw [h2, h1]; exact Hbi.out, hbeli⟩
              case measure => simp [intOf]; omega
            | true =>
              go_wp2
              go_roundw
              case rel => exact ⟨m + 1, by omega, by go_num, by have h1 := Hacc.out; have h2 := Hsn.out; simp at h1 h2 ⊢; rw [h2, ← Nat.xor_assoc, h1]; exact hto.out, hbeli.setCell (Nat.le_refl _) _⟩
              case measure => simp [intOf]; omega
        · have hme : Hid (m = Pol.len b) := by show _ = _; omega
          go_wp2
          go_roundw
          case rel =>
            refine ⟨k + 1, by omega, by go_num, ?_, hbeli⟩
            rw [hpn.out]
            have h3 := hbi
            rw [hme.out, Nat.mod_eq_of_lt (Pol.lt_len b)] at h3
            cases ta <;> simpa using h3
          case measure => simp [intOf]; omega
    · have hke : Hid (k = Pol.len a) := by show _ = _; omega
      go_wp2
      go_ret
      rw [hke.out, Nat.mod_eq_of_lt (Pol.lt_len a)] at hbits
      exact ⟨_, rfl, hg0, hbits, hq.step hbel⟩

set_option maxHeartbeats 8000000 in
set_option maxRecDepth 100000 in
theorem left_nat (A : Option Addr) (c n P b : Nat) (ok : Nat → Prop) (w : World) (hA : A = none → c = 0) (h : SeesP w ok A (bitsL P n)) (hok : ∀ g, ok g → g < w.heap.size) (hn : n ≤ 128) (hP : Pol.len P ≤ n) (hb1 : 1 ≤ b) (hb : b ≤ 18446744073709551615) :
    Calls Try.prog 29 #[.slice A n c, .int .u64 (b : Int)] w fun e w' => ∃ gq gl cl, e = .returned (.tuple #[.slice (some ⟨gq, 0, none⟩) n n, .slice (some ⟨gl, 0, none⟩) n cl]) ∧ w.heap.size ≤ gq ∧ w.heap.size ≤ gl ∧
      Bits w' gq n (Pol.div P b) ∧ Bits w' gl n (Pol.mod P b) ∧ Q w w' := by
  obtain ⟨i0, hi, hz0, hz1, hz2⟩ := info_parts infoBool
  have hlb := Pol.len_le64 hb
  have hb0 := Lib.hid (show b ≠ 0 by omega)
  have hpb := Pol.len_pos.2 hb0.out
  have H := Lib.hid h
  have HA := Lib.hid hA
  clear h hA
  go_enter Try.func29, Try.ntmps29
  go_wp2_with (at_builtin; refine wpList_append_sees rfl _ _ 48 rfl w.heap.size 4 i0 (.bool false) 1 Try.underlying48 hi hz0 hz1 hz2 rfl _ _ _ rfl (World.ownsRow_lit w #[] 0 (Nat.le_refl _) (Nat.zero_le _) (by simp)) ok A n c (bitsL P n) rfl HA.out (bitsL_len P n) (H.out.alloc hok _) (by intro u hu; simp [bitsL] at hu; obtain ⟨_, _, rfl⟩ := hu; rfl) ?c3 ?c4 (by simp) ?_)
  case c3 => simp only [maxLen]; omega
  case c4 => omega
  intro v1 w1 hown1 hg1 hnil1 _
  have hq1 : Q w w1 := ((Q.refl w).alloc _).grown (World.ownsRow_lit (e := 4) (size := 1) w #[] 0 (Nat.le_refl _) (Nat.zero_le _) (by simp)) hg1
  obtain ⟨gl, cl, f, rfl, hgl, hgl1, hncl, hrow, hf⟩ := own_row hown1 hnil1
  have hbl : Bits w1 gl n P := ⟨cl, f, hncl, hrow, fun i hi => hf i _ (by simpa using bitsL_get hi)⟩
  clear hown1 hg1 hnil1 hrow hf
  have Hbl := Lib.hid hbl
  clear hbl
  go_wp2_with fail
  (with_reducible refine (list_nat _ _ hb).mono ?_); rintro e w2 ⟨B, d, rfl, _, hs2, hq2⟩
  have hbl2 := Lib.hid ((Hbl.out.below hq2 hgl1).alloc (.cells (madeCells #[.bool false] n) 4))
  have hs2' : SeesP w2 (fun g => g ≠ gl ∧ g < w2.heap.size) B (bitsL b (Pol.len b)) := hs2.more fun g h => ⟨by omega, h.2⟩
  have HS2 := Lib.hid hs2'
  clear hs2 hs2' Hbl
  have hq : Q w w2 := hq1.step hq2
  have hg0 := hq.size
  have hgl2 : gl < w2.heap.size := by have := hq2.size; omega
  clear hq1 hq2
  go_wp2_with (refine wpList_make_row _ rfl _ _ 48 rfl 4 i0 (.bool false) Try.underlying48 hi hz0 hz1 rfl .i64 .i64 n rfl rfl (by rw [hz2]; omega) (by omega) ?_)
  have hbq := Lib.hid (Bits.made w2 n)
  have hgn : gl ≠ w2.heap.size := by omega
  have hgn' : w2.heap.size ≠ gl := by omega
  have hqb : Q w (w2.alloc (.cells (madeCells #[.bool false] n) 4)) := hq.alloc _
  have HS3 := Lib.hid (HS2.out.alloc (fun g h => h.2) (.cells (madeCells #[.bool false] n) 4))
  go_loopw [8, 9, 10] (fun i _ _ wr => ∃ s : Nat, s ≤ n ∧ i = .int .i64 ((s : Int) - 1) ∧ Q w wr ∧ Hid (∃ q x, Pol.LeftInv P b s q x ∧ Bits wr gl n x ∧ Bits wr w2.heap.size n q ∧ SeesP wr (fun g => g ≠ gl ∧ g < w2.heap.size) B (bitsL b (Pol.len b)))) (fun i _ _ _ => (intOf i + 1).toNat)
  case atStart => exact ⟨n, by omega, rfl, hqb, 0, P, Pol.leftInv_begin P b n hP, hbl2.out, hbq.out, HS3.out⟩
  case round =>
    obtain ⟨s, hs, rfl, hqr, HH⟩ := hrel
    clear hbl2 hbq HS2 HS3 hqb
    by_cases hle : Pol.len b ≤ s
    · obtain ⟨q, x, hinv, hbx, hbqr, hsr⟩ := HH.out
      have hcx := hbx.cell (i := s - 1) (by omega)
      have hi1 : ((s : Int) - 1).toNat = s - 1 := by omega
      generalize htx : x.testBit (s - 1) = tx at *
      cases tx with
      | false =>
        have hno := Lib.hid (Pol.leftInv_no hb0.out hinv hle htx)
        have HB := Lib.hid hbx
        have HBQ := Lib.hid hbqr
        have HSR := Lib.hid hsr
        clear hinv htx hbx hbqr hsr HH
        go_wp2
        go_roundw
        case rel => exact ⟨s - 1, by omega, by rw [show ((s - 1 : Nat) : Int) = (s : Int) - 1 from by omega], hqr, q, x, hno.out, HB.out, HBQ.out, HSR.out⟩
        case measure => simp [intOf]; omega
      | true =>
        obtain ⟨hyes, hqbit⟩ := Pol.leftInv_yes hb0.out hinv hle htx
        have Hyes := Lib.hid hyes
        have hcq := hbqr.cell (i := s - Pol.len b) (by omega)
        have hfq := hbqr.frozen (s - Pol.len b)
        have htq := hbqr.toggle (s - Pol.len b)
        rw [hqbit] at hcq htq
        have HTQ := Lib.hid htq
        have HBX := Lib.hid (hbx.other (a := ⟨w2.heap.size, s - Pol.len b, none⟩) hgn (.bool (!false)))
        have HSR := Lib.hid (hsr.setCell (p := ⟨w2.heap.size, s - Pol.len b, none⟩) (fun h => by have := h.2; simp at this) (.bool (!false)))
        clear hyes htq hqbit hinv hbx hbqr hsr HH htx
        have hi2 : ((s : Int) - 1 - (Pol.len b : Int) + 1).toNat = s - Pol.len b := by omega
        obtain ⟨wq, hwq⟩ : ∃ wq, wq = wr.setCell ⟨w2.heap.size, s - Pol.len b, none⟩ (.bool true) := ⟨_, rfl⟩
        have hqq : Q w wq := by rw [hwq]; exact hqr.setNew hg0 _
        have HTQ' : Hid (Bits wq w2.heap.size n (q ^^^ 2 ^ (s - Pol.len b))) := by show Bits _ _ _ _; rw [hwq]; exact HTQ.out
        have HBX' : Hid (Bits wq gl n x) := by show Bits _ _ _ _; rw [hwq]; exact HBX.out
        have HSR' : Hid (SeesP wq (fun g => g ≠ gl ∧ g < w2.heap.size) B (bitsL b (Pol.len b))) := by show SeesP _ _ _ _; rw [hwq]; exact HSR.out
        have Hwq := Lib.hid hwq
        clear HTQ HBX HSR hwq
        go_wp2
        rw [← Hwq.out]
        clear hi1 hi2 hcx hcq hfq
        go_loopw [9, 10] (fun j _ wi => ∃ m : Nat, m ≤ Pol.len b ∧ j = .int .i64 m ∧ Q w wi ∧ Hid (Bits wi gl n (x ^^^ (b % 2 ^ m) * 2 ^ (s - Pol.len b)) ∧ Bits wi w2.heap.size n (q ^^^ 2 ^ (s - Pol.len b)) ∧ SeesP wi (fun g => g ≠ gl ∧ g < w2.heap.size) B (bitsL b (Pol.len b)))) (fun j _ _ => 64 - (intOf j).toNat)
        case atStart => exact ⟨0, by omega, rfl, hqq, by rw [Nat.pow_zero, Nat.mod_one, Nat.zero_mul, Nat.xor_zero]; exact HBX'.out, HTQ'.out, HSR'.out⟩
        case round =>
          obtain ⟨m, hm, rfl, hqi, Hi⟩ := hrel
          clear HTQ' HBX' HSR'
          by_cases hlm : m < Pol.len b
          · obtain ⟨hb1', hb2', hb3'⟩ := Hi.out
            obtain ⟨bb, ob, rfl, ⟨hbb1, hbb2⟩, hcb⟩ := hb3'.at_ (bitsL_get hlm)
            have hsn := Pol.shift_next b (s - Pol.len b) m
            generalize htb : b.testBit m = tb at *
            have hi3 : ((s : Int) - 1 - (Pol.len b : Int) + 1 + (m : Int)).toNat = s - Pol.len b + m := by omega
            cases tb with
            | false =>
              rw [if_neg (by simp)] at hsn
              have h1 : Hid (Bits wr gl n (x ^^^ (b % 2 ^ (m + 1)) * 2 ^ (s - Pol.len b))) := by show Bits _ _ _ _; rw [hsn]; exact hb1'
              have HB2 := Lib.hid hb2'
              have HB3 := Lib.hid hb3'
              clear hsn htb hb1' hb2' hb3' Hi
              go_wp2
              go_roundw
              case rel => exact ⟨m + 1, by omega, by go_num, hqi, h1.out, HB2.out, HB3.out⟩
              case measure => simp [intOf]; omega
            | true =>
              rw [if_pos rfl] at hsn
              have hc1 := hb1'.cell (i := s - Pol.len b + m) (by omega)
              have hc2 := hb1'.frozen (s - Pol.len b + m)
              have hto := hb1'.toggle (s - Pol.len b + m)
              rw [Nat.xor_assoc, ← hsn] at hto
              generalize (x ^^^ b % 2 ^ m * 2 ^ (s - Pol.len b)).testBit (s - Pol.len b + m) = nt at *
              have h1 := Lib.hid hto
              have HB2 := Lib.hid (hb2'.other (a := ⟨gl, s - Pol.len b + m, none⟩) hgn' (.bool (!nt)))
              have HB3 := Lib.hid (hb3'.setCell (p := ⟨gl, s - Pol.len b + m, none⟩) (fun h => h.1 rfl) (.bool (!nt)))
              clear hsn htb hb1' hb2' hb3' hto Hi
              go_wp2
              go_roundw
              case rel => exact ⟨m + 1, by omega, by go_num, hqi.setNew hgl _, h1.out, HB2.out, HB3.out⟩
              case measure => simp [intOf]; omega
          · have hme : Hid (m = Pol.len b) := by show _ = _; omega
            go_wp2
            go_roundw
            case rel =>
              obtain ⟨hb1', hb2', hb3'⟩ := Hi.out
              rw [hme.out, Nat.mod_eq_of_lt (Pol.lt_len b)] at hb1'
              exact ⟨s - 1, by omega, by rw [show ((s - 1 : Nat) : Int) = (s : Int) - 1 from by omega], hqi, _, _, Hyes.out, hb1', hb2', hb3'⟩
            case measure => simp [intOf]; omega
    · go_wp2
      obtain ⟨q, x, hinv, hbx, hbqr, hsr⟩ := HH.out
      obtain ⟨e1, e2⟩ := Pol.leftInv_end hinv (by omega)
      go_ret2
      rw [e1, e2]
      exact ⟨_, gl, cl, rfl, hg0, hgl, hbqr, hbx, hqr⟩
end Go.Proofs.Ytgilaklgpopjeaa
