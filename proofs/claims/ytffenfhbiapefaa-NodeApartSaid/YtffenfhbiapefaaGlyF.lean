/- The walks through glyph's In: fail, Num. -/
import Derived.Test.YtffenfhbiapefaaGlyE
namespace Go.Proofs.Ytffenfhbiapefaa
set_option linter.unusedVariables false
set_option linter.unusedSimpArgs false
open Go.RowKit

/-- An In in block g: the bytes L are left, the error is e. -/
structure InHas (w : World) (base : Nat → Prop) (g e : Nat) (L : List Nat) : Prop where
  row : ∃ A c, w.rowIs g 89 2 (fun i => if i = 0 then .slice A L.length c else .int .i64 (e : Int)) ∧ SeesP w (fun k => base k ∧ k < w.heap.size ∧ k ≠ g) A (L.map B8) ∧ L.length ≤ c ∧ (A = none → c = 0)
  new : base g
  byte : ∀ x ∈ L, x ≤ 255
  len : L.length ≤ 140737488355328
section
variable {w w1 w' : World} {base : Nat → Prop} {g e e' : Nat} {L M : List Nat}
theorem InHas.lt (h : InHas w base g e L) : g < w.heap.size := by obtain ⟨A, c, h1, _⟩ := h.row; exact h1.lt
theorem InHas.only {S : Nat → Prop} (h : InHas w base g e L) (ho : Only S w w') (hg : ¬ S g) (hS : ∀ k, base k → k < w.heap.size → k ≠ g → ¬ S k) : InHas w' base g e L := by
  obtain ⟨A, c, h1, h2, h3, h4⟩ := h.row
  exact ⟨⟨A, c, ho.row h1 hg, (ho.sees h2 (fun b ⟨hb1, hb2, hb3⟩ => ⟨hb2, hS b hb1 hb2 hb3⟩)).more (fun b ⟨hb1, hb2, hb3⟩ => ⟨hb1, Nat.lt_of_lt_of_le hb2 ho.size, hb3⟩), h3, h4⟩, h.new, h.byte, h.len⟩
theorem InHas.q (h : InHas w base g e L) (hq : Q w w') : InHas w' base g e L := h.only (S := fun _ => False) (Only.of_q hq) id (fun _ _ _ _ => id)
theorem InHas.e_ (h : InHas w base g e L) : w.cell? ⟨g, 1, none⟩ = some (.int .i64 (e : Int)) := by obtain ⟨A, c, h1, _⟩ := h.row; exact h1.cell (i := 1) (by omega)
theorem InHas.fr (h : InHas w base g e L) (i : Nat) : w.frozen? ⟨g, i, none⟩ = false := by obtain ⟨A, c, h1, _⟩ := h.row; exact h1.frozen i
theorem InHas.cap (h : InHas w base g e L) : InHas w (fun k => base k ∧ k < w.heap.size) g e L := by
  obtain ⟨A, c, h1, h2, h3, h4⟩ := h.row
  exact ⟨⟨A, c, h1, h2.more (fun b ⟨hb1, hb2, hb3⟩ => ⟨⟨hb1, hb2⟩, hb2, hb3⟩), h3, h4⟩, ⟨h.new, h.lt⟩, h.byte, h.len⟩
/-- The error was stored. -/
theorem InHas.err (h : InHas w base g e L) (e' : Nat) : InHas (w.setCell ⟨g, 1, none⟩ (.int .i64 (e' : Int))) base g e' L := by
  obtain ⟨A, c, h1, h2, h3, h4⟩ := h.row
  refine ⟨⟨A, c, (h1.set 1 _).congr (fun i hi => ?_), (h2.setCell (p := ⟨g, 1, none⟩) (fun hh => hh.2.2 rfl) _).more (fun b ⟨hb1, hb2, hb3⟩ => ⟨hb1, by simpa [World.setCell] using hb2, hb3⟩), h3, h4⟩, h.new, h.byte, h.len⟩
  match i, hi with
  | 0, _ => rfl
  | 1, _ => rfl
/-- The slice was stored. -/
theorem InHas.put {A : Option Addr} {c : Nat} (h : w.rowIs g 89 2 (fun i => if i = 0 then .slice A L.length c else .int .i64 (e : Int))) (hn : base g) (B : Option Addr) (d n : Nat) (hl : M.length = n) (hs : SeesP w (fun k => base k ∧ k < w.heap.size ∧ k ≠ g) B (M.map B8)) (hd : M.length ≤ d) (hB : B = none → d = 0) (hb : ∀ x ∈ M, x ≤ 255) (hlen : M.length ≤ 140737488355328) :
    InHas (w.setCell ⟨g, 0, none⟩ (.slice B n d)) base g e M := by
  subst hl
  refine ⟨⟨B, d, (h.set 0 _).congr (fun i hi => ?_), (hs.setCell (p := ⟨g, 0, none⟩) (fun hh => hh.2.2 rfl) _).more (fun b ⟨hb1, hb2, hb3⟩ => ⟨hb1, by simpa [World.setCell] using hb2, hb3⟩), hd, hB⟩, hn, hb, hlen⟩
  match i, hi with
  | 0, _ => rfl
  | 1, _ => rfl
end
/-- What a call leaves that hands back r. -/
def InDone (w : World) (base : Nat → Prop) (g : Nat) (r : Value) (s : Nat × List Nat) (e_ : Ending) (w' : World) : Prop := e_ = .returned r ∧ InHas w' base g s.1 s.2 ∧ Only (fun k => k = g) w w'
theorem only_set (w : World) (g i : Nat) (v : Value) : Only (fun k => k = g) w (w.setCell ⟨g, i, none⟩ v) := (Only.refl (fun k => k = g) w).setCell (p := ⟨g, i, none⟩) rfl v

set_option maxHeartbeats 1000000 in
theorem ifail_ok (base : Nat → Prop) (g e e' : Nat) (L : List Nat) (w : World) (h : InHas w base g e L) :
    Calls Try.prog 55 #[.pointer (some ⟨g, 0, none⟩), .int .i64 (e' : Int)] w (InDone w base g (.tuple #[]) (err1 e e', L)) := by
  have c1 := h.e_
  have z1 := h.fr 1
  have HE := Lib.hid (fun e' => h.err e')
  have HR := Lib.hid h
  clear h
  unfold err1
  by_cases h0 : e = 0
  · rw [if_pos h0]
    have d : ((e : Int) == 0) = true := by rw [h0]; rfl
    clear h0
    go_enter Try.func55, Try.ntmps55
    go_wp2
    go_end0
    exact ⟨rfl, HE.out _, only_set _ _ _ _⟩
  · rw [if_neg h0]
    have d : ((e : Int) == 0) = false := beq_eq_false_iff_ne.2 (by omega)
    clear h0
    go_enter Try.func55, Try.ntmps55
    go_wp2
    go_end0
    exact ⟨rfl, HR.out, Only.refl _ _⟩

/-- Reading a number: what it is; the error, what is left. -/
def numRd (limit : Int) (s : Nat × List Nat) : Nat × (Nat × List Nat) :=
  if s.1 = 0 then (if (rdNum limit 0 0 s.2).2.1 = 0 then ((rdNum limit 0 0 s.2).1, (0, (rdNum limit 0 0 s.2).2.2)) else (0, ((rdNum limit 0 0 s.2).2.1, s.2))) else (0, s)
theorem numRd_ok {limit : Int} {L R : List Nat} {v : Nat} (h : rdNum limit 0 0 L = (v, 0, R)) : numRd limit (0, L) = (v, (0, R)) := by
  unfold numRd; simp only [h, if_true]
theorem numRd_bad {limit : Int} {L R : List Nat} {v e : Nat} (h : rdNum limit 0 0 L = (v, e, R)) (he : e ≠ 0) : numRd limit (0, L) = (0, (e, L)) := by
  unfold numRd; simp only [h, if_true]; rw [if_neg he]
theorem and8 {x : Nat} (hx : x ≤ 255) : bits .and .u8 (x : Int) 127 = ((x % 128 : Nat) : Int) := by
  have h : ∀ y : Fin 256, bits .and .u8 ((y.val : Nat) : Int) 127 = ((y.val % 128 : Nat) : Int) := by decide +kernel
  exact h ⟨x, by omega⟩
theorem ornat {n y i : Nat} (h : n < 2 ^ i) (hy : n + y * 2 ^ i < 9223372036854775808) : bits .or .i64 (n : Int) ((y * 2 ^ i : Nat) : Int) = ((n + y * 2 ^ i : Nat) : Int) := by
  have h1 : (BitVec.ofInt 64 (n : Int)).toNat = n := by
    rw [BitVec.ofInt_natCast, BitVec.toNat_ofNat]; exact Nat.mod_eq_of_lt (by omega)
  have h2 : (BitVec.ofInt 64 ((y * 2 ^ i : Nat) : Int)).toNat = y * 2 ^ i := by
    rw [BitVec.ofInt_natCast, BitVec.toNat_ofNat]; exact Nat.mod_eq_of_lt (by omega)
  show IntKind.i64.wrap ((BitVec.ofInt 64 (n : Int) ||| BitVec.ofInt 64 ((y * 2 ^ i : Nat) : Int)).toNat : Int) = _
  rw [BitVec.toNat_or, h1, h2]
  have e : n ||| y * 2 ^ i = n + y * 2 ^ i := by
    rw [Nat.or_comm, ← Nat.shiftLeft_eq, ← Nat.shiftLeft_add_eq_or_of_lt h, Nat.add_comm]
  rw [e]
  generalize n + y * 2 ^ i = z at hy ⊢
  simp [IntKind.wrap, IntKind.bits, IntKind.signed]
  omega

set_option maxHeartbeats 1000000 in
theorem num_off (base : Nat → Prop) (g e : Nat) (L : List Nat) (w : World) (limit : Int) (h : InHas w base g e L) (he : e ≠ 0) : Calls Try.prog 44 #[.pointer (some ⟨g, 0, none⟩), .int .i64 limit] w (InDone w base g (.int .i64 0) (e, L)) := by
  have c1 := h.e_
  have HR := Lib.hid h
  have d : ((e : Int) == 0) = false := beq_eq_false_iff_ne.2 (by omega)
  have d' : ((e : Int) != 0) = true := bne_iff_ne.2 (by omega)
  clear h he
  go_enter Try.func44, Try.ntmps44
  go_wp2
  go_ret
  exact ⟨rfl, HR.out, Only.refl _ _⟩
theorem rdNum_drop (limit : Int) (n k : Nat) (hk : k < 9) (L : List Nat) (h : k < L.length) (hx : 128 ≤ L[k]) : rdNum limit k n (L.drop k) = rdNum limit (k + 1) (n + (L[k] - 128) * 128 ^ k) (L.drop (k + 1)) := by
  rw [List.drop_eq_getElem_cons h, rdNum_more limit hk n hx]

theorem num_next {k n x N : Nat} (hk : k < 9) (hn : n < 128 ^ k) (hN : N = n + x % 128 * 128 ^ k) : bits .or .i64 (n : Int) (wrap64 ((x : Int) % 128 * 2 ^ (7 * k))) = (N : Int) ∧ N < 128 ^ (k + 1) := by
  have h1 : N < 128 ^ (k + 1) := by
    have h2 : x % 128 * 128 ^ k ≤ 127 * 128 ^ k := Nat.mul_le_mul_right _ (by omega)
    rw [Nat.pow_succ]; omega
  have h3 : 128 ^ (k + 1) ≤ 9223372036854775808 := Nat.pow_le_pow_right (n := 128) (by omega) (show k + 1 ≤ 9 by omega)
  have e : (128 : Nat) ^ k = 2 ^ (7 * k) := by rw [Nat.pow_mul]
  have e2 : (x : Int) % 128 * 2 ^ (7 * k) = ((x % 128 * 2 ^ (7 * k) : Nat) : Int) := by simp
  refine ⟨?_, h1⟩
  rw [e] at hn hN
  have h4 : wrap64 ((x : Int) % 128 * 2 ^ (7 * k)) = ((x % 128 * 2 ^ (7 * k) : Nat) : Int) := by
    rw [e2]
    generalize x % 128 * 2 ^ (7 * k) = y at hN ⊢
    unfold wrap64; omega
  rw [h4, ornat hn (by omega), hN]
theorem num_top {k N : Nat} (hk : k < 9) (h : N < 128 ^ (k + 1)) : N ≤ 9223372036854775807 := by
  have h3 : 128 ^ (k + 1) ≤ 9223372036854775808 := Nat.pow_le_pow_right (n := 128) (by omega) (show k + 1 ≤ 9 by omega)
  omega

set_option maxHeartbeats 4000000 in
set_option maxRecDepth 100000 in
theorem num_on (base : Nat → Prop) (g : Nat) (L : List Nat) (w : World) (limit : Int) (h : InHas w base g 0 L) (hl : -9223372036854775808 ≤ limit ∧ limit ≤ 9223372036854775807) :
    Calls Try.prog 44 #[.pointer (some ⟨g, 0, none⟩), .int .i64 limit] w (InDone w base g (.int .i64 ((numRd limit (0, L)).1 : Int)) (numRd limit (0, L)).2) := by
  obtain ⟨i8, hi8, hz80, hz81, hz82⟩ := info_parts info8
  have c1 := h.e_
  have z0 := h.fr 0
  obtain ⟨A, c, hr, hs, hlc, hAc⟩ := h.row
  have hlen := h.len
  have c0 : w.cell? ⟨g, 0, none⟩ = some (.slice A L.length c) := hr.cell (i := 0) (by omega)
  have HH := Lib.hid h
  have HR := Lib.hid hr
  have HS := Lib.hid hs
  have HA := Lib.hid hAc
  have HF : Hid (∀ e' : Nat, Calls Try.prog 55 #[.pointer (some ⟨g, 0, none⟩), .int .i64 (e' : Int)] w (InDone w base g (.tuple #[]) (e', L))) := fun e' => ifail_ok base g 0 e' L w h
  have f2 := Lib.hid (show Calls Try.prog 55 #[.pointer (some ⟨g, 0, none⟩), .int .i64 2] w (InDone w base g (.tuple #[]) (2, L)) from HF.out 2)
  have f3 := Lib.hid (show Calls Try.prog 55 #[.pointer (some ⟨g, 0, none⟩), .int .i64 3] w (InDone w base g (.tuple #[]) (3, L)) from HF.out 3)
  have f4 := Lib.hid (show Calls Try.prog 55 #[.pointer (some ⟨g, 0, none⟩), .int .i64 4] w (InDone w base g (.tuple #[]) (4, L)) from HF.out 4)
  obtain ⟨r, hr0⟩ : ∃ r, r = numRd limit (0, L) := ⟨_, rfl⟩
  rw [← hr0]
  have HRD := Lib.hid hr0
  clear hr0
  obtain ⟨m, hm⟩ : ∃ m, m = L.length := ⟨_, rfl⟩
  have HM := Lib.hid hm
  rw [← hm] at c0 hlc hlen
  clear h hr hs hAc hm HF
  go_enter Try.func44, Try.ntmps44
  go_wp2_with fail
  go_loop [5, 17] (fun x i => ∃ k n : Nat, k ≤ 9 ∧ k ≤ m ∧ n < 128 ^ k ∧ x = .int .i64 n ∧ i = .int .i64 k ∧ Hid (rdNum limit 0 0 L = rdNum limit k n (L.drop k))) (fun _ i => 9 - (intOf i).toNat)
  case atStart => exact ⟨0, 0, by omega, by omega, by omega, rfl, rfl, rfl⟩
  case round =>
    obtain ⟨k, n, hk, hkm, hn, rfl, rfl, HX⟩ := hrel
    by_cases hk9 : k < 9
    · by_cases hkl : k = m
      · have HK := Lib.hid hkl
        subst hkl
        have hd : ((k : Int) == (k : Int)) = true := by simp
        go_wp2_with (go_at_call 55; go_loud ((with_reducible refine f3.out.mono ?_); rintro e w1 ⟨rfl, h1⟩; have H1 := Lib.hid h1; clear h1))
        go_ret
        have hr1 : r = (0, (3, L)) := by
          rw [HRD.out]
          exact numRd_bad (by rw [HX.out, List.drop_of_length_le (by rw [← HM.out]; exact Nat.le_refl _), rdNum_nil limit hk9]) (by omega)
        rw [hr1]
        exact ⟨rfl, H1.out⟩
      · have hkL : k < L.length := by have := HM.out; omega
        obtain ⟨bb, oo, rfl, hbb, hc⟩ := HS.out.at_ (k := k) (u := B8 L[k]) (by simp [hkL])
        have hc1 : w.cell? ⟨bb, oo + k, none⟩ = some (.int .u8 (L[k] : Int)) := hc
        clear hc
        have hx255 := HH.out.byte L[k] (List.getElem_mem hkL)
        have HDR := Lib.hid (List.drop_eq_getElem_cons hkL)
        generalize L[k] = x at *
        have ha := and8 hx255
        have hd : ((k : Int) == (m : Int)) = false := beq_eq_false_iff_ne.2 (by omega)
        have hlt : k < m := by omega
        obtain ⟨N, hN⟩ : ∃ N, N = n + x % 128 * 128 ^ k := ⟨_, rfl⟩
        obtain ⟨hor, hNlt⟩ := num_next hk9 hn hN
        have HN := Lib.hid hN
        have hNb : N ≤ 9223372036854775807 := num_top hk9 hNlt
        clear hbb hkL hkl hN
        by_cases hx : 128 ≤ x
        · have HNX : Hid (rdNum limit 0 0 L = rdNum limit (k + 1) N (L.drop (k + 1))) := by
            show _ = _
            rw [HX.out, HDR.out, rdNum_more limit hk9 n hx, HN.out, show x % 128 = x - 128 by omega]
          have HL := Lib.hid hNlt
          clear hn hNlt
          go_wp2_with fail
          go_round
          case rel => exact ⟨k + 1, N, by omega, by omega, HL.out, rfl, by go_num, HNX.out⟩
          case measure => simp [intOf]; omega
        · have HLS : Hid (rdNum limit 0 0 L = if (0 < k ∧ x = 0) ∨ 4611686018427387904 ≤ N then (0, 2, L.drop k) else if limit < (N : Int) then (0, 4, L.drop k) else (N, 0, L.drop (k + 1))) := by
            show _ = _
            rw [HX.out, HDR.out, rdNum_last limit hk9 n (by omega), HN.out, show x % 128 = x by omega]
          have hN0 : ¬ ((N : Int) < 0) := by omega
          clear hn hNlt
          by_cases hz : 0 < k ∧ x = 0
          · have hk1 : (0 : Int) < (k : Int) := by omega
            have HR1 : Hid (r = (0, (2, L))) := HRD.out.trans (numRd_bad (HLS.out.trans (if_pos (.inl hz))) (by omega))
            obtain ⟨_, rfl⟩ := hz
            go_wp2_with (go_at_call 55; go_loud ((with_reducible refine f2.out.mono ?_); rintro e w1 ⟨rfl, h1⟩; have H1 := Lib.hid h1; clear h1))
            go_ret
            rw [HR1.out]
            exact ⟨rfl, H1.out⟩
          · have hcase : ¬ (0 : Int) < (k : Int) ∨ ((0 : Int) < (k : Int) ∧ ((x : Int) == 0) = false) := by
              by_cases h0 : 0 < k
              · exact .inr ⟨by omega, beq_eq_false_iff_ne.2 (by omega)⟩
              · exact .inl (by omega)
            have hNb2 : (N : Int) ≤ 9223372036854775807 := by omega
            clear hNb
            by_cases hN62 : 4611686018427387904 ≤ N
            · have HR1 : Hid (r = (0, (2, L))) := HRD.out.trans (numRd_bad (HLS.out.trans (if_pos (.inr hN62))) (by omega))
              have hbig : (4611686018427387904 : Int) ≤ (N : Int) := by omega
              clear hz hN62
              rcases hcase with hk1 | ⟨hk1, hx1⟩
              all_goals
                go_wp2_with (go_at_call 55; go_loud ((with_reducible refine f2.out.mono ?_); rintro e w1 ⟨rfl, h1⟩; have H1 := Lib.hid h1; clear h1))
                go_ret
                rw [HR1.out]
                exact ⟨rfl, H1.out⟩
            · have HLT := Lib.hid (HLS.out.trans (if_neg (fun h => h.elim hz hN62)))
              have hbig : decide ((4611686018427387904 : Int) ≤ (N : Int)) = false := by
                rw [decide_eq_false_iff_not]; omega
              clear hN62 hNb2
              by_cases hlim : limit < (N : Int)
              · have HR1 : Hid (r = (0, (4, L))) := HRD.out.trans (numRd_bad (HLT.out.trans (if_pos hlim)) (by omega))
                clear hz
                rcases hcase with hk1 | ⟨hk1, hx1⟩
                all_goals
                  go_wp2_with (go_at_call 55; go_loud ((with_reducible refine f4.out.mono ?_); rintro e w1 ⟨rfl, h1⟩; have H1 := Lib.hid h1; clear h1))
                  go_ret
                  rw [HR1.out]
                  exact ⟨rfl, H1.out⟩
              · have HR1 : Hid (r = (N, (0, L.drop (k + 1)))) := HRD.out.trans (numRd_ok (HLT.out.trans (if_neg hlim)))
                clear hz
                have hkm1 : k + 1 ≤ m := by omega
                rcases hcase with hk1 | ⟨hk1, hx1⟩
                all_goals
                  go_wp2_with (refine gate 74 rfl ?_; go_loud (refine wpList_slice_lo rfl 40 (.tmp 71) (.tmp 73) rfl 5 Try.underlying40 i8 hi8 1 hz81 _ _ _ rfl .i64 (k + 1) rfl hkm1 ?_))
                  go_ret
                  rw [HR1.out]
                  refine ⟨rfl, InHas.put HR.out HH.out.new _ _ _ (by rw [List.length_drop, HM.out]) ?_ (by rw [List.length_drop, ← HM.out]; omega) (fun h => ?_) (fun y hy => HH.out.byte y (List.mem_of_mem_drop hy)) (by rw [List.length_drop, ← HM.out]; omega), only_set _ _ _ _⟩
                  · have h1 := HS.out.cut (c := c) (l := k + 1) (s := 1) (by rw [List.length_map, ← HM.out]; omega)
                    rw [Nat.mul_one, ← List.map_drop] at h1
                    exact h1
                  · have := HA.out (cutA_none_iff.1 h); omega
    · have hk10 : k = 9 := by omega
      have HR1 : Hid (r = (0, (2, L))) := HRD.out.trans (numRd_bad (HX.out.trans (rdNum_nine limit (by omega) n _)) (by omega))
      subst hk10
      go_wp2_with (go_at_call 55; go_loud ((with_reducible refine f2.out.mono ?_); rintro e w1 ⟨rfl, h1⟩; have H1 := Lib.hid h1; clear h1))
      go_ret
      rw [HR1.out]
      exact ⟨rfl, H1.out⟩
end Go.Proofs.Ytffenfhbiapefaa
