/- A crash of an empty store; rises. -/
import Derived.Test.YtffpaeljnfmmiaaKys
import Derived.Test.YtffpaeljnfmmiaaCel
import Derived.Test.YtffpaeljnfmmiaaShn
namespace Go.Proofs.Ytffpaeljnfmmiaa
set_option linter.unusedVariables false
set_option linter.unusedSimpArgs false
open Go.RowKit Go.Maps

theorem namesOf_nil : namesOf (.map []) = [] := by
  unfold namesOf
  have e : strKeys (.map [] : DataW Value) = [] := rfl
  rw [e]; simp
set_option maxHeartbeats 4000000 in
set_option maxRecDepth 100000 in
theorem crash0_ok (s mb n : Nat) (p : Pw) (room : Int) (w : World) (h : ShHas w s mb n (.map []) p room) (hn : n ≤ 1000000) :
    Calls Try.prog 9 #[.pointer (some ⟨s, 0, none⟩), .slice none 0 0] w (ShDone w s mb n (.map []) ⟨-1, false, p.made⟩ room (.tuple #[])) := by
  have HN := Lib.hid (names_ok s mb n (.map []) p room w h hn)
  rw [namesOf_nil] at HN
  have HH := Lib.hid h
  clear h hn
  go_enter Try.func9, Try.ntmps9
  go_wp2_with (first
    | (go_at_call 16; go_loud (refine HN.out.mono ?_; rintro e w' ⟨v, rfl, hr, hv, hq⟩; obtain rfl := hv.2 rfl; have H1 := Lib.hid hq; have H2 := Lib.hid (HH.out.q hq); have c1 := H2.out.c1; have c2 := H2.out.c2; have z1 := H2.out.fr 1; have z2 := H2.out.fr 2; clear hr hv hq)))
  refine wp_loop_rounds 1 ?_
  rw [rounds_succ]
  go_wp2_with fail
  go_end0
  refine ⟨rfl, (H2.out.off_ _).left_ _, ?_⟩
  exact (Only.of_q H1.out).trans ((only_set _ _ _ _).trans (only_set _ _ _ _))

theorem has_nil (k : Lit) : Maps.has (.map [] : DataW Value) k = false := rfl
def pw0 : Pw := ⟨-1, false, 0⟩
theorem pw0_ok : pw0.ok := by unfold Pw.ok pw0; decide
/-- With power for as many changes as one likes: a greater number is taken. -/
theorem raise_up (c s mb n m : Nat) (x y : Int) (D : DataW Value) (room : Int) (w : World) (hc : CeHas w c s x) (h : ShHas w s mb n D ⟨-1, false, m⟩ room) (hm : Maps.has D (.string []) = false) (hp : m ≤ 1000000) (hcs : c ≠ s) (hcm : c ≠ mb) (hxy : x < y) (hy : y ≤ 4611686018427387903) :
    Calls Try.prog 8 #[.pointer (some ⟨c, 0, none⟩), .int .i64 y] w fun e w' => e = .returned (.int .i64 0) ∧ ShHas w' s mb n D ⟨-1, false, m + 1⟩ room ∧ CeHas w' c s y ∧ Only (fun k => k = s ∨ k = c) w w' := by
  refine (raise_ok c s mb n x y D _ room w hc h hm (by unfold Pw.ok; simp only; omega) hcs hcm).mono ?_
  rintro e w' ⟨rfl, h1, h2, h3⟩
  have hn : ¬ (y ≤ x ∨ 4611686018427387903 < y) := by omega
  have e1 : raiseErr ⟨-1, false, m⟩ x y = 0 := by unfold raiseErr; simp only [Bool.false_eq_true, if_false, if_neg hn]; rfl
  have e2 : raisePw ⟨-1, false, m⟩ x y = ⟨-1, false, m + 1⟩ := by unfold raisePw; simp only [Bool.false_eq_true, if_false, if_neg hn]; rfl
  unfold raiseNum at h2
  rw [e1] at h2 ⊢
  rw [e2] at h1
  rw [if_pos rfl] at h2
  exact ⟨rfl, h1, h2, h3⟩
/-- .. another one isn't. -/
theorem raise_no (c s mb n m : Nat) (x y : Int) (D : DataW Value) (room : Int) (w : World) (hc : CeHas w c s x) (h : ShHas w s mb n D ⟨-1, false, m⟩ room) (hm : Maps.has D (.string []) = false) (hp : m ≤ 1000000) (hcs : c ≠ s) (hcm : c ≠ mb) (hxy : y ≤ x) :
    Calls Try.prog 8 #[.pointer (some ⟨c, 0, none⟩), .int .i64 y] w fun e w' => e = .returned (.int .i64 1) ∧ ShHas w' s mb n D ⟨-1, false, m⟩ room ∧ CeHas w' c s x ∧ Only (fun k => k = s ∨ k = c) w w' := by
  refine (raise_ok c s mb n x y D _ room w hc h hm (by unfold Pw.ok; simp only; omega) hcs hcm).mono ?_
  rintro e w' ⟨rfl, h1, h2, h3⟩
  have hn : (y ≤ x ∨ 4611686018427387903 < y) := by omega
  have e1 : raiseErr ⟨-1, false, m⟩ x y = 1 := by unfold raiseErr; simp only [Bool.false_eq_true, if_false, if_pos hn]
  have e2 : raisePw ⟨-1, false, m⟩ x y = ⟨-1, false, m⟩ := by unfold raisePw; simp only [Bool.false_eq_true, if_false, if_pos hn]
  unfold raiseNum at h2
  rw [e1] at h2 ⊢
  rw [e2] at h1
  rw [if_neg (by decide)] at h2
  exact ⟨rfl, h1, h2, h3⟩
/-- .. the number is told. -/
theorem read_on (c s mb n : Nat) (m : Nat) (x : Int) (D : DataW Value) (l room : Int) (w : World) (hc : CeHas w c s x) (h : ShHas w s mb n D ⟨l, false, m⟩ room) (hm : Maps.has D (.string []) = false) :
    Calls Try.prog 10 #[.pointer (some ⟨c, 0, none⟩)] w fun e w' => e = .returned (.tuple #[.int .i64 x, .int .i64 0]) ∧ Q w w' := by
  refine (readCell_ok c s mb n x D _ room w hc h hm).mono ?_
  rintro e w' ⟨rfl, h1⟩
  exact ⟨rfl, h1⟩

set_option maxHeartbeats 4000000 in
set_option maxRecDepth 100000 in
theorem rises_ok (w : World) : Calls Try.prog 7 #[] w fun e w' => e = .returned (.bool true) ∧ Q w w' := by
  have HS := Lib.hid (newShelf_ok 10 w (by decide) (by decide))
  go_enter Try.func7, Try.ntmps7
  go_wp2_with (first
    | (go_at_call 5; go_loud (refine HS.out.mono ?_; rintro e1 w1 ⟨s, mb, rfl, h1, hq1, hs1, hm1⟩; have H1 := Lib.hid h1; have HQ1 := Lib.hid hq1; have HL1 := Lib.hid (And.intro hs1 hm1); clear h1 hq1 hs1 hm1))
    | (go_at_call 6; go_loud (refine (newCell_ok s w1).mono ?_; rintro e2 w2 ⟨c, rfl, h2, hq2, hc2⟩; have HD := Lib.hid (show c ≠ s ∧ c ≠ mb ∧ w.heap.size ≤ c from ⟨by have := H1.out.lt; omega, by have := H1.out.ltm; omega, Nat.le_trans HQ1.out.size hc2⟩); have H2 := Lib.hid (H1.out.q hq2); have C2 := Lib.hid h2; have HQ2 := Lib.hid (HQ1.out.step hq2); have HR1 := Lib.hid (raise_up c s mb 0 0 0 5 _ _ w2 h2 (H1.out.q hq2) (has_nil _) (by decide) HD.out.1 HD.out.2.1 (by decide) (by decide)); clear h2 hq2 hc2))
    | (go_at_call 8; (with_reducible refine HR1.out.mono ?_); rintro e3 w3 ⟨rfl, h3, c3, ho3⟩; have H3 := Lib.hid h3; have C3 := Lib.hid c3; have HO3 := Lib.hid ho3; have HR2 := Lib.hid (raise_no c s mb 0 1 5 5 _ _ w3 c3 h3 (has_nil _) (by decide) HD.out.1 HD.out.2.1 (by decide)); clear h3 c3 ho3)
    | (go_at_call 8; (with_reducible refine HR2.out.mono ?_); rintro e4 w4 ⟨rfl, h4, c4, ho4⟩; have H4 := Lib.hid h4; have C4 := Lib.hid c4; have HO4 := Lib.hid ho4; have HC := Lib.hid (crash0_ok s mb 0 _ _ w4 h4 (by decide)); clear h4 c4 ho4)
    | (go_at_call 9; (with_reducible refine HC.out.mono ?_); rintro e5 w5 ⟨rfl, h5, ho5⟩; have H5 := Lib.hid h5; have HO5 := Lib.hid ho5; have C5 := Lib.hid (C4.out.only ho5 HD.out.1); have HX := Lib.hid (read_on c s mb 0 _ _ _ _ _ w5 C5.out h5 (has_nil _)); clear h5 ho5)
    | (go_at_call 10; (with_reducible refine HX.out.mono ?_); rintro e6 w6 ⟨rfl, hq6⟩; have HQ6 := Lib.hid hq6; clear hq6))
  go_ret
  have hS : ∀ k, (k = s ∨ k = c) → w.heap.size ≤ k := by
    rintro k (rfl | rfl)
    · exact HL1.out.1
    · exact HD.out.2.2
  exact ⟨rfl, (((HO3.out.trans HO4.out).trans (HO5.out.mono fun k hk => Or.inl hk)).q HQ2.out hS).step HQ6.out⟩
end Go.Proofs.Ytffpaeljnfmmiaa
