/- strings.ContainsAny(s, "/\x00") for whatever bytes s has, up to 4294967280 of them. -/
import Derived.Test.YtffenfhbiapefaaShelf
import Derived.Test.YtffenfhbiapefaaMem
import Derived.Laws.RangeAny
import Derived.Lib.Hide
import Derived.Lib.OthersKept
import Derived.WalkMore
import Derived.Deep.LoopGhost
import Derived.Deep.DeepCutAuto
import Derived.Deep.QuietTactic
import Derived.BigQuiet
import Derived.Test.YtffenfhbiapefaaBts
namespace Go.Proofs.Ytffenfhbiapefaa
set_option linter.unusedVariables false
set_option linter.unusedSimpArgs false
open Go.RowKit

section
/-- The bytes of a rune that isn't one byte are all of 128 or more. -/
theorem wide_high (s : ByteArray) (pos : Nat) (h : pos < s.size) (ha : 128 ≤ (s[pos]'h).toNat) (j : Nat) (hj : j < (Utf8.decode s pos).2) : 128 ≤ (s.get! (pos + j)).toNat := by
  have h0 : 128 ≤ (s.get! (pos + 0)).toNat := by
    rw [Nat.add_zero]
    have : s.get! pos = s[pos] := by simp [ByteArray.get!, getElem!_pos, h]; rfl
    rw [this]; exact ha
  have hn : ¬ (s.get! (pos + 0)).toNat < 128 := by omega
  simp only [Utf8.decode, hn, if_false] at hj
  have c : ∀ k, (decide (pos + k < s.size) && (s.get! (pos + k)).toNat / 64 == 2) = true → 128 ≤ (s.get! (pos + k)).toNat := fun k hk => by
    simp only [Bool.and_eq_true, beq_iff_eq] at hk
    omega
  have key : ∀ n, (∀ k, 0 < k → k < n → 128 ≤ (s.get! (pos + k)).toNat) → j < n → 128 ≤ (s.get! (pos + j)).toNat := fun n hk hjn => by
    rcases Nat.eq_zero_or_pos j with rfl | hp
    · exact h0
    · exact hk j hp hjn
  split at hj
  · rename_i h1
    simp only [Bool.and_eq_true] at h1
    have c1 := c 1 (by simpa using h1.2)
    refine key 2 (fun k hk1 hk2 => by obtain rfl : k = 1 := by omega
                                      exact c1) ?_
    split at hj <;> simp only at hj <;> omega
  · split at hj
    · rename_i h1
      simp only [Bool.and_eq_true] at h1
      have c1 := c 1 (by simpa using h1.1.2)
      have c2 := c 2 (by simpa using h1.2)
      refine key 3 (fun k hk1 hk2 => by rcases (show k = 1 ∨ k = 2 by omega) with rfl | rfl <;> assumption) ?_
      split at hj <;> simp only at hj <;> omega
    · split at hj
      · rename_i h1
        simp only [Bool.and_eq_true] at h1
        have c1 := c 1 (by simpa using h1.1.1.2)
        have c2 := c 2 (by simpa using h1.1.2)
        have c3 := c 3 (by simpa using h1.2)
        refine key 4 (fun k hk1 hk2 => by rcases (show k = 1 ∨ k = 2 ∨ k = 3 by omega) with rfl | rfl | rfl <;> assumption) ?_
        split at hj <;> simp only at hj <;> omega
      · simp only at hj
        obtain rfl : j = 0 := by omega
        exact h0
theorem decode_max (s : ByteArray) (pos : Nat) : (Utf8.decode s pos).1 ≤ 1114111 := by
  have hb : ∀ k, (s.get! (pos + k)).toNat < 256 := fun k => (s.get! (pos + k)).toNat_lt
  have h0 := hb 0; have h1 := hb 1; have h2 := hb 2; have h3 := hb 3
  simp only [Utf8.decode]
  repeat' split
  all_goals simp_all [Utf8.runeError, Utf8.valid]
  all_goals omega
/-- A rune of more than one byte, as a string: its size, its last byte. -/
theorem encode_wide (r : Nat) (h : 128 ≤ r) (h1 : r ≤ 1114111) : ∃ n, (Utf8.encode (r : Int)).size = n ∧ 2 ≤ n ∧ n ≤ 4 ∧ ∀ x, (Utf8.encode (r : Int)).data.toList[n - 1]? = some x → 128 ≤ x.toNat := by
  obtain ⟨c, hc, hcc⟩ : ∃ c, c = (if Utf8.valid (r : Int) then (r : Int).toNat else Utf8.runeError) ∧ 128 ≤ c := by
    refine ⟨_, rfl, ?_⟩
    split
    · omega
    · decide
  have hc1 : c ≤ 1114111 := by
    rw [hc]; split
    · omega
    · decide
  unfold Utf8.encode
  simp only [← hc]
  rw [if_neg (by omega)]
  have last : 128 ≤ (UInt8.ofNat (128 + c % 64)).toNat := by
    rw [UInt8.toNat_ofNat']
    omega
  split
  · exact ⟨2, rfl, by omega, by omega, fun x hx => by cases hx; exact last⟩
  · split
    · exact ⟨3, rfl, by omega, by omega, fun x hx => by cases hx; exact last⟩
    · exact ⟨4, rfl, by omega, by omega, fun x hx => by cases hx; exact last⟩
/-- The two bytes that no name has. -/
def badB : ByteArray := ⟨#[47, 0]⟩

theorem run_next_small {P : Program} (w : World) (i : Nat) (ty : TypeId) (hi : i < 2) :
    (Instr.next (.pointer (some ⟨w.heap.size, 0, none⟩)) true ty).run P (w.iter badB i) = .ok (.tuple #[.bool true, .int .i64 i, .int .i32 (if i = 0 then 47 else 0)]) (w.iter badB (i + 1)) := by
  have h := run_next_any (P := P) w badB i ty (by exact hi)
  rcases (show i = 0 ∨ i = 1 by omega) with rfl | rfl
  · rw [show Utf8.decode badB 0 = (47, 1) by rfl] at h; exact h
  · rw [show Utf8.decode badB 1 = (0, 1) by rfl] at h; exact h
set_option maxHeartbeats 4000000 in
set_option maxRecDepth 100000 in
theorem indexRune_err (w : World) : Calls Try.prog 58 #[.string badB, .int .i32 65533] w fun e w' => e = .returned (.int .i64 (-1)) ∧ Q w w' := by
  have hQ : ∀ i, Q w (w.iter badB i) := fun i => (Q.refl w).alloc _
  have HQ := Lib.hid hQ
  clear hQ
  go_enter Try.func58, Try.ntmps58
  go_wp2
  go_loopg [5, 6] 2 (fun g _ _ wx => ∃ i : Nat, i + g = 2 ∧ wx = w.iter badB i)
  case atStart => exact ⟨0, by omega, rfl⟩
  case round =>
    obtain ⟨i, hig, rfl⟩ := hrel
    cases gk with
    | zero =>
      obtain rfl : i = 2 := by omega
      have hnx := fun ty => run_next_end (P := Try.prog) w badB 2 ty (by decide)
      go_wp2
      go_ret
      exact ⟨rfl, HQ.out _⟩
    | succ g =>
      have hnx := fun ty => run_next_small (P := Try.prog) w i ty (by omega)
      have hne : (((if i = 0 then 47 else 0 : Int)) == 65533) = false := by split <;> rfl
      generalize (if i = 0 then 47 else 0 : Int) = rr at hnx hne
      go_wp2
      go_roundg g
      case measure => omega
      case rel => exact ⟨i + 1, by omega, rfl⟩
set_option maxHeartbeats 4000000 in
set_option maxRecDepth 100000 in
theorem indexRune_wide (r : Nat) (w : World) (h : 128 ≤ r) (h1 : r ≤ 1114111) : Calls Try.prog 58 #[.string badB, .int .i32 (r : Int)] w fun e w' => e = .returned (.int .i64 (-1)) ∧ Q w w' := by
  by_cases he : r = 65533
  · subst he; exact indexRune_err w
  have hne : ((r : Int) == 65533) = false := beq_eq_false_iff_ne.2 (by omega)
  have HV := Lib.hid (fun w => Try.utf8_ValidRune (r : Int) w)
  obtain ⟨n, hn1, hn2, hn3, hn4⟩ := encode_wide r h h1
  clear h1
  cases hv : Lib.validRune (r : Int) with
  | false =>
    rw [hv] at HV
    clear he hv hn1 hn4
    go_enter Try.func58, Try.ntmps58
    go_wp2_with (go_at_call 66; (with_reducible refine (HV.out _).mono ?_); rintro e w' ⟨rfl, rfl⟩)
    go_ret
    exact ⟨rfl, Q.refl _⟩
  | true =>
    rw [hv] at HV
    obtain ⟨E, hE⟩ : ∃ E, E = Utf8.encode (r : Int) := ⟨_, rfl⟩
    have hcv : ∀ w, (convert 21 9 (.int .i32 (r : Int))).run Try.prog w = .ok (.string E) w := fun w => by
      rw [hE]; simp [convert, Try.underlying21, Try.underlying9, go_sem, Conv.intToString]
    rw [← hE] at hn1 hn4
    have HN4 := Lib.hid hn4
    clear hE hn4 hv he
    have hbs : badB.size = 2 := rfl
    have hen : ∀ args w, (callFunc 65 args).run Try.prog w = .ok (.enter 65 args) w := fun _ _ => rfl
    rcases Nat.lt_or_ge n 3 with hlt | hge
    · obtain rfl : n = 2 := by omega
      obtain ⟨x, hx⟩ : ∃ x, E.data.toList[1]? = some x := ⟨E.data.toList[1]'(by have := Lib.size_eq E; omega), List.getElem?_eq_getElem _⟩
      have hx1 := HN4.out x hx
      have hlt1 : 1 < E.size := by omega
      have hx2 : E[1]'hlt1 = x := by
        have := Lib.data_getElem? E 1 hlt1
        rw [hx] at this
        exact (Option.some.inj this).symm
      go_enter Try.func58, Try.ntmps58
      go_wp2_with (go_at_call 66; (with_reducible refine (HV.out _).mono ?_); rintro e w' ⟨rfl, rfl⟩)
      go_step3
      go_wp2
      refine wp_loop_once ?_
      go_wp2
      go_step3
      go_wp2
      have hb1 : badB[1]'(by decide) = 0 := rfl
      have hne1 : ((0 : Int) != (x.toNat : Int)) = true := bne_iff_ne.2 (by omega)
      go_quiet (fail)
      have HQ1 : Hid (Q w' (w'.drewN nq)) := Lib.hid ((Q.refl w').drewN nq)
      generalize w'.drewN nq = w2 at HQ1
      have HIB : Hid (∀ w, Calls Try.prog 65 #[.string (badB.extract 2 2), .int .u8 (x.toNat : Int)] w fun e w' => e = .returned (.int .i64 (-1)) ∧ w' = w) := Lib.hid fun w => (Try.strings_IndexByte _ _ w)
      go_wp2
      go_quiet ((go_at_call 65; exact Calls.quiet_of_same (HIB.out _)))
      go_wp2
      exact bodyPost_ret (P := Try.prog) (fn := Try.f58) (R := fun e w'_1 => e = .returned (.int .i64 (-1)) ∧ Q w' w'_1) (results_tmp rfl _ _ _) rfl ⟨rfl, HQ1.out.drewN _⟩
    · have hnb : decide ((n : Int) - 1 < 2) = false := decide_eq_false (by omega)
      go_enter Try.func58, Try.ntmps58
      go_wp2_with (go_at_call 66; (with_reducible refine (HV.out _).mono ?_); rintro e w' ⟨rfl, rfl⟩)
      go_step3
      go_wp2
      refine wp_loop_once ?_
      go_wp2
      rw [Exit.noGoto_ret]
      go_ret
      exact ⟨rfl, Q.refl _⟩

theorem noAny_wide {s : ByteArray} {i : Nat} (hi : i < s.size) (ha : 128 ≤ (s[i]'hi).toNat) (h : Lib.NoAny s.data.toList badB.data.toList i) : Lib.NoAny s.data.toList badB.data.toList (i + (Utf8.decode s i).2) := fun j b hj hb => by
  rcases Nat.lt_or_ge j i with h1 | h1
  · exact h j b h1 hb
  · have h2 := wide_high s i hi ha (j - i) (by omega)
    rw [show i + (j - i) = j by omega] at h2
    have hjs : j < s.size := by
      have := (List.getElem?_eq_some_iff.1 hb).1
      rw [Lib.size_eq]; exact this
    have h3 : s.get! j = b := by
      have h4 := Lib.data_getElem? s j hjs
      rw [hb] at h4
      have h5 : s.get! j = s[j] := by simp [ByteArray.get!, getElem!_pos, hjs]; rfl
      rw [h5]; exact (Option.some.inj h4).symm
    rw [h3] at h2
    show ([47, 0] : List UInt8).contains b = false
    have n1 : (b == 47) = false := by
      rw [beq_eq_false_iff_ne]; rintro rfl; revert h2; decide
    have n2 : (b == 0) = false := by
      rw [beq_eq_false_iff_ne]; rintro rfl; revert h2; decide
    rw [beq_eq_false_iff_ne] at n1 n2
    simp [List.contains_cons, n1, n2]
set_option maxHeartbeats 8000000 in
set_option maxRecDepth 100000 in
theorem indexAny_short (s : ByteArray) (w : World) (h8 : s.size ≤ 8) :
    Calls Try.prog 48 #[.string s, .string badB] w fun e w' => e = .returned (.int .i64 (Lib.indexAny s.data.toList badB.data.toList)) ∧ Q w w' := by
  have hemp : badB.toList.isEmpty = false := by rw [Lib.toList_data]; rfl
  have hbs : badB.size = 2 := rfl
  have h8z : decide ((8 : Int) < (s.size : Int)) = false := decide_eq_false (by omega)
  have hQ : ∀ i, Q w (w.iter s i) := fun i => (Q.refl w).alloc _
  have HQ := Lib.hid hQ
  clear hQ
  have HU := Lib.hid (fun w => Try.strings_shouldUseASCIISet (s.size : Int) w)
  rw [h8z] at HU
  have HRW := Lib.hid (fun (r : Nat) (w : World) (h : 128 ≤ r) (h1 : r ≤ 1114111) => indexRune_wide r w h h1)
  have HRA := Lib.hid (fun (r : Nat) (w : World) (h : r < 128) => Try.strings_IndexRune_ascii badB (r : Int) w (by omega) (by omega))
  go_enter Try.func48, Try.ntmps48
  go_wp2_with (go_at_call 59; (with_reducible refine (HU.out _).mono ?_); rintro e w' ⟨rfl, rfl⟩)
  go_loopg [9, 10] s.size (fun g _ _ wx => ∃ i : Nat, s.size ≤ i + g ∧ Hid (wx.heap[w'.heap.size]? = some (.stringIter s i)) ∧ Hid (Q w' wx) ∧ Hid (Lib.NoAny s.data.toList badB.data.toList i))
  case atStart => exact ⟨0, by omega, World.iter_heap _ _ _, HQ.out _, Lib.NoAny.zero _ _⟩
  case round =>
    obtain ⟨i, hig, HI, HQr, HN⟩ := hrel
    by_cases hi : i < s.size
    · obtain ⟨g, rfl⟩ : ∃ g, gk = g + 1 := ⟨gk - 1, by omega⟩
      have hnx := fun ty => Lib.run_next_any_at (P := Try.prog) wr w'.heap.size s i ty HI.out hi
      have HI2 := Lib.hid (Lib.iterAt_heap wr w'.heap.size s i (i + (Utf8.decode s i).2) HI.out)
      have HQ2 := Lib.hid (Lib.below_iterAt HQr.out (k := w'.heap.size) (Nat.le_refl _) s (i + (Utf8.decode s i).2))
      obtain ⟨x, hx⟩ : ∃ x : UInt8, s[i]'hi = x := ⟨_, rfl⟩
      have hxl : s.data.toList[i]? = some x := by rw [← hx]; exact Lib.data_getElem? s i hi
      rcases Nat.lt_or_ge x.toNat 128 with h128 | h128
      · have hd : Utf8.decode s i = (x.toNat, 1) := by rw [← hx]; exact decode_ascii s i hi (by rw [hx]; exact h128)
        rw [hd] at hnx HI2 HQ2
        simp only at hnx HI2 HQ2
        have hback : ((x.toNat : Int)).toNat.toUInt8 = x := by simp
        have hcon := Lib.contains_iff_indexByte badB.data.toList x
        have HRx := Lib.hid (fun w => HRA.out x.toNat w h128)
        rw [hback] at HRx
        have HX := Lib.hid hxl
        generalize wr.iterAt w'.heap.size s (i + 1) = wi at *
        clear hx hxl hd HRA HRW hback
        cases hin : badB.data.toList.contains x with
        | false =>
          rw [hin] at hcon
          have hlt : ¬ ((0 : Int) ≤ Lib.indexByte badB.data.toList x) := of_decide_eq_false hcon.symm
          have HIN := Lib.hid hin
          clear hcon hin
          generalize Lib.indexByte badB.data.toList x = z at *
          go_wp2_with (go_at_call 58; (with_reducible refine (HRx.out _).mono ?_); rintro e w3 ⟨rfl, rfl⟩)
          go_roundg g
          case measure => omega
          case rel => exact ⟨i + 1, by omega, HI2.out, HQ2.out, HN.out.succ HX.out HIN.out⟩
        | true =>
          rw [hin] at hcon
          have hge : (0 : Int) ≤ Lib.indexByte badB.data.toList x := of_decide_eq_true hcon.symm
          have HIN := Lib.hid hin
          clear hcon hin
          generalize Lib.indexByte badB.data.toList x = z at *
          go_wp2_with (go_at_call 58; (with_reducible refine (HRx.out _).mono ?_); rintro e w3 ⟨rfl, rfl⟩)
          go_ret
          exact ⟨by rw [Lib.indexAny_hit HN.out HX.out HIN.out]; rfl, HQ2.out⟩
      · obtain ⟨d1, d2⟩ := decode_high s i hi (by rw [hx]; exact h128)
        have d3 := decode_max s i
        have HN2 := Lib.hid (noAny_wide hi (by rw [hx]; exact h128) HN.out)
        obtain ⟨R, hR⟩ : ∃ R, R = (Utf8.decode s i).1 := ⟨_, rfl⟩
        obtain ⟨K, hK⟩ : ∃ K, K = (Utf8.decode s i).2 := ⟨_, rfl⟩
        rw [← hR, ← hK] at hnx
        rw [← hK] at HI2 HQ2 HN2 d2
        rw [← hR] at d1 d3
        have HRx := Lib.hid (fun w => HRW.out R w d1 d3)
        generalize wr.iterAt w'.heap.size s (i + K) = wi at *
        clear hx hxl hR hK d3 HRA HRW
        go_wp2_with (go_at_call 58; (with_reducible refine (HRx.out _).mono ?_); rintro e w3 ⟨rfl, hq3⟩; have HQ3 := Lib.hid hq3; clear hq3)
        go_roundg g
        case measure => omega
        case rel => exact ⟨i + K, by omega, Lib.hid ((HQ3.out.block _ (Array.getElem?_eq_some_iff.1 HI2.out).1).trans HI2.out), Q.step HQ2.out HQ3.out, HN2.out⟩
    · have hnx := fun ty => Lib.run_next_end_at (P := Try.prog) wr w'.heap.size s i ty HI.out hi
      go_wp2
      go_ret
      exact ⟨by rw [Lib.indexAny_none (fun j b hj hb => HN.out j b (by have := Lib.size_eq s; omega) hb)]; rfl, HQr.out⟩

theorem indexAny_any (s : ByteArray) (w : World) (hs : s.size < 4294967281) :
    Calls Try.prog 48 #[.string s, .string badB] w fun e w' => e = .returned (.int .i64 (Lib.indexAny s.data.toList badB.data.toList)) ∧ Q w w' := by
  rcases Nat.lt_or_ge 8 s.size with h | h
  · refine (Try.strings_IndexAny_long (fun w => by kernel_rfl) s badB w (by decide) h hs (by decide) (fun j b hj => ?_)).mono ?_
    · match j, hj with
      | 0, hj => cases hj; decide
      | 1, hj => cases hj; decide
    · rintro e w' ⟨he, rfl⟩
      exact ⟨he, ((Q.refl w).alloc _).alloc _⟩
  · exact indexAny_short s w h
/-- Has s a byte that no name has? -/
def hasBad (s : ByteArray) : Bool := decide (0 ≤ Lib.indexAny s.data.toList badB.data.toList)
set_option maxHeartbeats 2000000 in
theorem containsAny_any (s : ByteArray) (w : World) (hs : s.size < 4294967281) :
    Calls Try.prog 28 #[.string s, .string badB] w fun e w' => e = .returned (.bool (hasBad s)) ∧ Q w w' := by
  have HI := Lib.hid (fun w => indexAny_any s w hs)
  unfold hasBad
  generalize Lib.indexAny s.data.toList badB.data.toList = z at *
  clear hs
  go_enter Try.func28, Try.ntmps28
  go_wp2_with (go_at_call 48; (with_reducible refine (HI.out _).mono ?_); rintro e w' ⟨rfl, hq⟩; have HQ := Lib.hid hq; clear hq)
  go_ret
  exact ⟨rfl, HQ.out⟩
/-- It has one just where one of its bytes is 47 or 0. -/
theorem hasBad_iff (s : ByteArray) : hasBad s = s.data.toList.any fun x => x == 47 || x == 0 := by
  unfold hasBad
  induction s.data.toList with
  | nil => rfl
  | cons b l ih =>
    unfold Lib.indexAny
    have hg := Lib.indexAny_ge badB.data.toList l
    have hc : badB.data.toList.contains b = (b == 47 || b == 0) := by
      show ([47, 0] : List UInt8).contains b = _
      simp [List.contains_cons]
      rfl
    rw [hc, List.any_cons, ← ih]
    cases h : (b == 47 || b == 0)
    · simp only [Bool.false_eq_true, if_false, Bool.false_or]
      by_cases h2 : Lib.indexAny l badB.data.toList = -1
      · rw [h2]; rfl
      · have : ((Lib.indexAny l badB.data.toList == -1) = true) = False := by simp [h2]
        simp only [this, if_false]
        rw [Bool.eq_iff_iff, decide_eq_true_iff, decide_eq_true_iff]
        omega
    · simp
end

section
/-- May an item be called so? -/
def nameB (s : ByteArray) : Bool := decide (¬ s.toList = [] ∧ (s.size : Int) ≤ 255 ∧ ¬ s.toList = [46] ∧ ¬ s.toList = [46, 46]) && !hasBad s
theorem ret_bool {a b : Bool} (h : a = b) : Ending.returned (.bool a) = .returned (.bool b) := by rw [h]
set_option maxHeartbeats 2000000 in
set_option maxRecDepth 100000 in
theorem isName_ok (s : ByteArray) (w : World) (hs : s.size ≤ 9223372036854775807) :
    Calls Try.prog 14 #[.string s] w fun e w' => e = .returned (.bool (nameB s)) ∧ Q w w' := by
  have HC := Lib.hid (fun w (h : s.size < 4294967281) => (show Calls Try.prog 28 #[.string s, .string ⟨#[47, 0]⟩] w fun e w' => e = .returned (.bool (hasBad s)) ∧ Q w w' from containsAny_any s w h))
  obtain ⟨bad, hbad⟩ : ∃ b, b = hasBad s := ⟨_, rfl⟩
  rw [← hbad] at HC
  have HB := Lib.hid hbad
  clear hbad
  go_enter Try.func14, Try.ntmps14
  go_wp2_with (go_at_call 28; go_loud ((with_reducible refine (HC.out _ (by omega)).mono ?_); rintro e w1 ⟨rfl, hq⟩; have HQ := Lib.hid hq; clear hq))
  all_goals
    go_ret
    refine ⟨ret_bool ?_, by first | exact Q.refl _ | exact HQ.out⟩
    unfold nameB
    rw [← HB.out]
    simp [*]
    try omega
theorem nameB_bad {s : ByteArray} (h : hasBad s = true) : nameB s = false := by unfold nameB; rw [h]; simp
theorem any_at {l : List UInt8} {k : Nat} {x : UInt8} {p : UInt8 → Bool} (h : l.take (k + 1) = l.take k ++ [x]) (hx : p x = true) : l.any p = true := by
  rw [List.any_eq_true]
  exact ⟨x, List.mem_of_mem_take (i := k + 1) (by rw [h]; simp), hx⟩
set_option maxHeartbeats 2000000 in
set_option maxRecDepth 100000 in
theorem refIsName_ok (s : ByteArray) (w : World) (hs : s.size ≤ 9223372036854775807) :
    Calls Try.prog 15 #[.string s] w fun e w' => e = .returned (.bool (nameB s)) ∧ Q w w' := by
  obtain ⟨l, hl⟩ : ∃ l, l = s.data.toList := ⟨_, rfl⟩
  have hbad : hasBad s = l.any fun x => x == 47 || x == 0 := by rw [hl]; exact hasBad_iff s
  have hget : ∀ k (h : k < s.size), l[k]? = some s[k] := fun k h => by rw [hl]; exact Lib.data_getElem? s k h
  have hlen : l.length = s.size := by rw [hl]; exact (Lib.size_eq s).symm
  have HB := Lib.hid hbad
  have HGT := Lib.hid hget
  have HLN := Lib.hid hlen
  clear hl hbad hget hlen
  go_enter Try.func15, Try.ntmps15
  go_wp2_with fail
  all_goals (first
    | (go_ret; refine ⟨ret_bool ?_, Q.refl _⟩; unfold nameB; simp [*]; done)
    | (go_ret; rename_i a b; refine ⟨ret_bool ?_, Q.refl _⟩; unfold nameB; rw [decide_eq_false (fun hh => absurd hh.2.1 (by omega))]; rfl)
    | (go_ret; rename_i a b c d; have h46 : s.toList = [46, 46] := (by
        rcases d with ((d | d) | d) | d
        · exact absurd (List.isEmpty_iff.1 d) a
        · omega
        · exact absurd (beq_iff_eq.1 d) c
        · exact beq_iff_eq.1 d); refine ⟨ret_bool ?_, Q.refl _⟩; unfold nameB; rw [h46]; simp; done)
    | skip)
  have HA : Hid (¬ s.toList = [] ∧ (s.size : Int) ≤ 255 ∧ ¬ s.toList = [46] ∧ ¬ s.toList = [46, 46]) := Lib.hid (by simp_all)
  go_loop [3] (fun i => ∃ k : Nat, k ≤ s.size ∧ i = .int .i64 k ∧ Hid ((l.take k).any (fun x => x == 47 || x == 0) = false)) (fun i => s.size - (intOf i).toNat)
  case atStart => exact ⟨0, by omega, rfl, by show _ = _; simp⟩
  case round =>
    obtain ⟨k, hk, rfl, HK⟩ := hrel
    by_cases hlt : k < s.size
    · obtain ⟨x, hx⟩ : ∃ x, s[k] = x := ⟨_, rfl⟩
      have hxl := HGT.out k hlt
      rw [hx] at hxl
      have HX := Lib.hid hxl
      have hst : l.take (k + 1) = l.take k ++ [x] := by rw [List.take_add_one, hxl]; rfl
      have HST := Lib.hid hst
      clear hxl hst
      by_cases h47 : x = 47
      · have b1 : ((x.toNat : Int) == 47) = true := by rw [h47]; rfl
        go_wp2_with fail
        go_ret
        refine ⟨ret_bool ?_, Q.refl _⟩
        rw [nameB_bad (HB.out.trans (any_at HST.out (by rw [h47]; rfl)))]
      · have b47 : ((x.toNat : Int) == 47) = false := beq_eq_false_iff_ne.2 (fun h => h47 (UInt8.toNat_inj.1 (show x.toNat = (47 : UInt8).toNat by have : (47 : UInt8).toNat = 47 := rfl; omega)))
        by_cases h0 : x = 0
        · have b0 : ((x.toNat : Int) == 0) = true := by rw [h0]; rfl
          go_wp2_with fail
          go_ret
          refine ⟨ret_bool ?_, Q.refl _⟩
          rw [nameB_bad (HB.out.trans (any_at HST.out (by rw [h0]; rfl)))]
        · have b0 : ((x.toNat : Int) == 0) = false := beq_eq_false_iff_ne.2 (fun h => h0 (UInt8.toNat_inj.1 (show x.toNat = (0 : UInt8).toNat by have : (0 : UInt8).toNat = 0 := rfl; omega)))
          go_wp2_with fail
          go_round
          case rel => exact ⟨k + 1, by omega, by go_num, by show _ = _; rw [HST.out, List.any_append, HK.out]; simp [h47, h0]⟩
          case measure => simp [intOf]; omega
    · obtain rfl : k = s.size := by omega
      go_wp2_with fail
      go_ret
      refine ⟨ret_bool ?_, Q.refl _⟩
      unfold nameB
      have h := HK.out
      rw [List.take_of_length_le (by rw [HLN.out]; exact Nat.le_refl _)] at h
      rw [HB.out, h, decide_eq_true HA.out]
      rfl
end
end Go.Proofs.Ytffenfhbiapefaa
