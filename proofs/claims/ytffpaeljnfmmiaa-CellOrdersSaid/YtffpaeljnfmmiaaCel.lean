/- Reading the store's map; a cell: New, on, Read. -/
import Derived.Test.YtffpaeljnfmmiaaShf
import Derived.StringKeys
namespace Go.Proofs.Ytffpaeljnfmmiaa
set_option linter.unusedVariables false
set_option linter.unusedSimpArgs false
open Go.RowKit Go.Maps Go.WideMaps

def zObj : Value := .agg #[.slice none 0 0, .bool false]
theorem zeroObj (w : World) : (zeroValue 55).run Try.prog w = .ok zObj w := by kernel_rfl
theorem run_look {w : World} {b n : Nat} {D : DataW Value} (h : w.ownsMap Try.prog 9 heldR b n D) (key : ByteArray) (hk : key.size ≤ maxLen) :
    ∃ v, (Instr.lookup 41 (.map (some b)) (.string key) true).run Try.prog w = .ok (.tuple #[v, .bool (Maps.has D (.string key.data.toList))]) w ∧ D.atKey (.string key.data.toList) (.held zObj) = .held v := by
  obtain ⟨v, ps, h1, h2⟩ := h.look_ok keyS Try.underlying41 (zeroObj w) (zd := .held zObj) (zp := []) rfl (keyOf_string_mk Try.underlying9 hk)
  refine ⟨v, h1, ?_⟩
  simp only [heldR, Option.some.injEq, Prod.mk.injEq] at h2
  exact h2.1.symm
theorem run_look0 {w : World} {b n : Nat} {D : DataW Value} (h : w.ownsMap Try.prog 9 heldR b n D) (key : ByteArray) (hk : key.size ≤ maxLen) :
    ∃ v, (Instr.lookup 41 (.map (some b)) (.string key) false).run Try.prog w = .ok v w ∧ D.atKey (.string key.data.toList) (.held zObj) = .held v := by
  obtain ⟨v, ps, h1, h2⟩ := h.lookup keyS Try.underlying41 (zeroObj w) (zd := .held zObj) (zp := []) rfl (keyOf_string_mk Try.underlying9 hk)
  refine ⟨v, h1, ?_⟩
  simp only [heldR, Option.some.injEq, Prod.mk.injEq] at h2
  exact h2.1.symm
set_option maxHeartbeats 4000000 in
set_option maxRecDepth 100000 in
theorem get_off (s mb n : Nat) (D : DataW Value) (p : Pw) (room : Int) (k : ByteArray) (w : World) (h : ShHas w s mb n D p room) (hp : p.off = true) :
    Calls Try.prog 17 #[.pointer (some ⟨s, 0, none⟩), .string k] w fun e w' => e = .returned (.tuple #[.slice none 0 0, .int .i64 9]) ∧ Q w w' := by
  have hc := look_ok s mb n D p room w h
  rw [if_pos hp] at hc
  have HC := Lib.hid hc
  clear hc h
  go_enter Try.func17, Try.ntmps17
  go_wp2_with (first
    | (go_at_call 23; refine HC.out.mono ?_; rintro e w' ⟨rfl, rfl⟩))
  go_ret2
  exact ⟨rfl, Q.refl _⟩
set_option maxHeartbeats 4000000 in
set_option maxRecDepth 100000 in
theorem get_miss (s mb n : Nat) (D : DataW Value) (p : Pw) (room : Int) (k : ByteArray) (hk : k.size ≤ maxLen) (w : World) (h : ShHas w s mb n D p room) (hp : p.off = false) (hm : Maps.has D (.string k.data.toList) = false) :
    Calls Try.prog 17 #[.pointer (some ⟨s, 0, none⟩), .string k] w fun e w' => e = .returned (.tuple #[.slice none 0 0, .int .i64 6]) ∧ Q w w' := by
  have hc := look_ok s mb n D p room w h
  rw [if_neg (by rw [hp]; decide)] at hc
  have HC := Lib.hid hc
  have c0 := h.c0
  obtain ⟨v, hrun, hv⟩ := run_look h.map k hk
  rw [atKey_of_not_has hm] at hv
  rw [hm] at hrun
  injection hv with hv
  subst hv
  clear hc h hm
  unfold zObj at hrun
  go_enter Try.func17, Try.ntmps17
  go_wp2_with (first
    | (go_at_call 23; refine HC.out.mono ?_; rintro e w' ⟨rfl, rfl⟩))
  go_ret2
  exact ⟨rfl, (Q.refl _).alloc _⟩

/-- Could a change be made? -/
def Pw.err (p : Pw) : Nat := if p.off || decide (p.left = 0) then 9 else 0
theorem Pw.err_bad {p : Pw} (h : p.bad) : p.err = 9 := by
  unfold Pw.err; rcases h with h | h <;> rw [h] <;> simp
theorem Pw.err_good {p : Pw} (h : ¬ p.bad) : p.err = 0 := by
  unfold Pw.err
  have h1 : p.off = false := by cases hh : p.off; rfl; exact absurd (Or.inl hh) h
  have h2 : p.left ≠ 0 := fun e => h (Or.inr e)
  rw [h1]; simp [h2]
theorem Pw.spend_off {p : Pw} (h : p.off = true) : p.spend = p := by
  unfold Pw.spend; rw [if_pos (Or.inl h)]; cases p; simp only at h; rw [h]
theorem Pw.spend_bad {p : Pw} (h : p.bad) : p.spend = { p with off := true } := if_pos h
set_option maxHeartbeats 4000000 in
theorem fine_ok (w : World) : Calls Try.prog 19 #[] w fun e w' => e = .returned (.int .i64 0) ∧ w' = w := by
  go_enter Try.func19, Try.ntmps19
  go_wp2
  go_ret
  exact ⟨rfl, rfl⟩
set_option maxHeartbeats 4000000 in
theorem nothing_ok (w : World) : Calls Try.prog 20 #[] w fun e w' => e = .returned (.tuple #[]) ∧ w' = w := by
  go_enter Try.func20, Try.ntmps20
  go_wp2
  go_end0
  exact ⟨rfl, rfl⟩
set_option maxHeartbeats 4000000 in
set_option maxRecDepth 100000 in
theorem changeN_ok (s mb n : Nat) (D : DataW Value) (p : Pw) (room : Int) (w : World) (h : ShHas w s mb n D p room) (hp : p.ok) :
    Calls Try.prog 18 #[.pointer (some ⟨s, 0, none⟩), .func (.func 19) #[] #[], .func (.func 20) #[] #[]] w (ShDone w s mb n D p.spend room (.int .i64 (p.err : Int))) := by
  have c2 := h.c2
  have HH := Lib.hid h
  by_cases ho : p.off = true
  · rw [Pw.err_bad (Or.inl ho), Pw.spend_off ho]
    rw [ho] at c2
    clear h ho
    go_enter Try.func18, Try.ntmps18
    go_wp2
    go_ret
    exact ⟨rfl, HH.out, Only.refl _ _⟩
  · have ho' : p.off = false := by cases hh : p.off; rfl; exact absurd hh ho
    rw [ho'] at c2
    by_cases hb : p.bad
    · rw [Pw.err_bad hb, Pw.spend_bad hb]
      have HS := Lib.hid (spend_bad s mb n D p room w h hb)
      clear h ho
      go_enter Try.func18, Try.ntmps18
      go_wp2_with (first
        | (go_at_call 19; refine (fine_ok _).mono ?_; rintro e w' ⟨rfl, rfl⟩)
        | (go_at_call 25; refine HS.out.mono ?_; rintro e w' ⟨rfl, hs1, hs2⟩; have H1 := Lib.hid hs1; have H2 := Lib.hid hs2; clear hs1 hs2))
      go_ret
      exact ⟨rfl, H1.out, H2.out⟩
    · rw [Pw.err_good hb]
      have HS := Lib.hid (spend_good s mb n D p room w h hb hp)
      clear h ho
      go_enter Try.func18, Try.ntmps18
      go_wp2_with (first
        | (go_at_call 19; refine (fine_ok _).mono ?_; rintro e w' ⟨rfl, rfl⟩)
        | (go_at_call 20; refine (nothing_ok _).mono ?_; rintro e w' ⟨rfl, rfl⟩)
        | (go_at_call 25; refine HS.out.mono ?_; rintro e w' ⟨rfl, hs1, hs2⟩; have H1 := Lib.hid hs1; have H2 := Lib.hid hs2; clear hs1 hs2))
      go_ret
      exact ⟨rfl, H1.out, H2.out⟩
set_option maxHeartbeats 4000000 in
set_option maxRecDepth 100000 in
theorem nudge_ok (s mb n : Nat) (D : DataW Value) (p : Pw) (room : Int) (w : World) (h : ShHas w s mb n D p room) (hp : p.ok) :
    Calls Try.prog 15 #[.pointer (some ⟨s, 0, none⟩)] w (ShDone w s mb n D p.spend room (.int .i64 (p.err : Int))) := by
  have HC := Lib.hid (changeN_ok s mb n D p room w h hp)
  clear h hp
  go_enter Try.func15, Try.ntmps15
  go_wp2_with (first
    | (go_at_call 18; refine HC.out.mono ?_; rintro e w' ⟨rfl, hs1, hs2⟩; have H1 := Lib.hid hs1; have H2 := Lib.hid hs2; clear hs1 hs2))
  go_ret
  exact ⟨rfl, H1.out, H2.out⟩

/-- A cell in block c: its store in block s; its number is x. -/
def CeHas (w : World) (c s : Nat) (x : Int) : Prop := w.rowIs c 49 2 (fun i => match i with | 0 => .pointer (some ⟨s, 0, none⟩) | _ => .int .i64 x)
section
variable {w w' : World} {c s : Nat} {x : Int} {S : Nat → Prop}
theorem CeHas.c0 (h : CeHas w c s x) : w.cell? ⟨c, 0, none⟩ = some (.pointer (some ⟨s, 0, none⟩)) := World.rowIs.cell h (i := 0) (by omega)
theorem CeHas.c1 (h : CeHas w c s x) : w.cell? ⟨c, 1, none⟩ = some (.int .i64 x) := World.rowIs.cell h (i := 1) (by omega)
theorem CeHas.fr (h : CeHas w c s x) (i : Nat) : w.frozen? ⟨c, i, none⟩ = false := World.rowIs.frozen h i
theorem CeHas.lt (h : CeHas w c s x) : c < w.heap.size := World.rowIs.lt h
theorem CeHas.only (h : CeHas w c s x) (ho : Only S w w') (hc : ¬ S c) : CeHas w' c s x := ho.row h hc
theorem CeHas.q (h : CeHas w c s x) (hq : Q w w') : CeHas w' c s x := row_q hq h
theorem CeHas.put (h : CeHas w c s x) (y : Int) : CeHas (w.setCell ⟨c, 1, none⟩ (.int .i64 y)) c s y := by
  refine (World.rowIs.set h 1 _).congr (fun i hi => ?_)
  match i, hi with
  | 0, _ => rfl
  | 1, _ => rfl
end
set_option maxHeartbeats 4000000 in
set_option maxRecDepth 100000 in
theorem newCell_ok (s : Nat) (w : World) :
    Calls Try.prog 6 #[.pointer (some ⟨s, 0, none⟩)] w fun e w' => ∃ c, e = .returned (.tuple #[.pointer (some ⟨c, 0, none⟩), .int .i64 0]) ∧ CeHas w' c s 0 ∧ Q w w' ∧ w.heap.size ≤ c := by
  go_enter Try.func6, Try.ntmps6
  go_wp2_with fail
  go_ret2
  refine ⟨w.heap.size, rfl, ?_, (Q.refl _).alloc _, Nat.le_refl _⟩
  refine World.rowIs_alloc w #[.pointer (some ⟨s, 0, none⟩), .int .i64 0] 49 _ (fun i hi => ?_)
  match i, hi with
  | 0, _ => rfl
  | 1, _ => rfl
/-- Without power 9, else 0. -/
def Pw.gone (p : Pw) : Nat := if p.off then 9 else 0
set_option maxHeartbeats 4000000 in
set_option maxRecDepth 100000 in
theorem on_ok (c s mb n : Nat) (x : Int) (D : DataW Value) (p : Pw) (room : Int) (w : World) (hc : CeHas w c s x) (h : ShHas w s mb n D p room) (hm : Maps.has D (.string []) = false) :
    Calls Try.prog 14 #[.pointer (some ⟨c, 0, none⟩)] w fun e w' => e = .returned (.int .i64 (p.gone : Int)) ∧ Q w w' := by
  have c0 := hc.c0
  by_cases ho : p.off = true
  · have hg : p.gone = 9 := if_pos ho
    rw [hg]
    have HG := Lib.hid (get_off s mb n D p room ⟨#[]⟩ w h ho)
    clear h hc hm ho hg
    go_enter Try.func14, Try.ntmps14
    go_wp2_with (first
      | (go_at_call 17; refine HG.out.mono ?_; rintro e w' ⟨rfl, hq⟩; have H1 := Lib.hid hq; clear hq))
    go_ret
    exact ⟨rfl, H1.out⟩
  · have hg : p.gone = 0 := if_neg ho
    rw [hg]
    have ho' : p.off = false := by cases hh : p.off; rfl; exact absurd hh ho
    have HG := Lib.hid (get_miss s mb n D p room ⟨#[]⟩ (by unfold maxLen; decide) w h ho' hm)
    clear h hc hm ho hg ho'
    go_enter Try.func14, Try.ntmps14
    go_wp2_with (first
      | (go_at_call 17; refine HG.out.mono ?_; rintro e w' ⟨rfl, hq⟩; have H1 := Lib.hid hq; clear hq))
    go_ret
    exact ⟨rfl, H1.out⟩
set_option maxHeartbeats 4000000 in
set_option maxRecDepth 100000 in
theorem readCell_ok (c s mb n : Nat) (x : Int) (D : DataW Value) (p : Pw) (room : Int) (w : World) (hc : CeHas w c s x) (h : ShHas w s mb n D p room) (hm : Maps.has D (.string []) = false) :
    Calls Try.prog 10 #[.pointer (some ⟨c, 0, none⟩)] w fun e w' => e = .returned (.tuple #[.int .i64 (if p.off then 0 else x), .int .i64 (p.gone : Int)]) ∧ Q w w' := by
  have HN := Lib.hid (on_ok c s mb n x D p room w hc h hm)
  have HC := Lib.hid hc
  by_cases ho : p.off = true
  · have hg : p.gone = 9 := if_pos ho
    rw [hg] at HN ⊢
    rw [if_pos ho]
    clear h hc hm ho hg
    go_enter Try.func10, Try.ntmps10
    go_wp2_with (first
      | (go_at_call 14; refine HN.out.mono ?_; rintro e w' ⟨rfl, hq⟩; have H1 := Lib.hid hq; clear hq))
    go_ret2
    exact ⟨rfl, H1.out⟩
  · have hg : p.gone = 0 := if_neg ho
    rw [hg] at HN ⊢
    rw [if_neg ho]
    clear h hc hm ho hg
    go_enter Try.func10, Try.ntmps10
    go_wp2_with (first
      | (go_at_call 14; refine HN.out.mono ?_; rintro e w' ⟨rfl, hq⟩; have H1 := Lib.hid hq; have c1 := (HC.out.q hq).c1; clear hq))
    go_ret2
    exact ⟨rfl, H1.out⟩
/-- What Raise answers. -/
def raiseErr (p : Pw) (x y : Int) : Nat := if p.off then 9 else if y ≤ x ∨ 4611686018427387903 < y then 1 else p.err
def raisePw (p : Pw) (x y : Int) : Pw := if p.off then p else if y ≤ x ∨ 4611686018427387903 < y then p else p.spend
def raiseNum (p : Pw) (x y : Int) : Int := if raiseErr p x y = 0 then y else x
set_option maxHeartbeats 4000000 in
set_option maxRecDepth 100000 in
theorem raise_ok (c s mb n : Nat) (x y : Int) (D : DataW Value) (p : Pw) (room : Int) (w : World) (hc : CeHas w c s x) (h : ShHas w s mb n D p room) (hm : Maps.has D (.string []) = false) (hp : p.ok) (hcs : c ≠ s) (hcm : c ≠ mb) :
    Calls Try.prog 8 #[.pointer (some ⟨c, 0, none⟩), .int .i64 y] w fun e w' => e = .returned (.int .i64 (raiseErr p x y : Int)) ∧ ShHas w' s mb n D (raisePw p x y) room ∧ CeHas w' c s (raiseNum p x y) ∧ Only (fun k => k = s ∨ k = c) w w' := by
  have HN := Lib.hid (on_ok c s mb n x D p room w hc h hm)
  have HC := Lib.hid hc
  have HH := Lib.hid h
  unfold raiseNum raiseErr raisePw
  by_cases ho : p.off = true
  · have hg : p.gone = 9 := if_pos ho
    rw [hg] at HN
    simp only [if_pos ho]
    clear h hc hm ho hg hp
    go_enter Try.func8, Try.ntmps8
    go_wp2_with (first
      | (go_at_call 14; refine HN.out.mono ?_; rintro e w' ⟨rfl, hq⟩; have H1 := Lib.hid hq; clear hq))
    go_ret
    exact ⟨rfl, HH.out.q H1.out, HC.out.q H1.out, Only.of_q H1.out⟩
  · have hg : p.gone = 0 := if_neg ho
    rw [hg] at HN
    simp only [if_neg ho]
    by_cases hy : y ≤ x ∨ 4611686018427387903 < y
    · simp only [if_pos hy]
      have HO := Lib.hid ho
      rcases Int.lt_or_le x y with hxy | hxy
      · have d1 : decide (y ≤ x) = false := decide_eq_false (by omega)
        have d2 : decide (4611686018427387903 < y) = true := decide_eq_true (by omega)
        clear h hc hm ho hg hp hy hxy
        go_enter Try.func8, Try.ntmps8
        go_wp2_with (first
          | (go_at_call 14; refine HN.out.mono ?_; rintro e w' ⟨rfl, hq⟩; have H1 := Lib.hid hq; have c1 := (HC.out.q hq).c1; clear hq))
        go_ret
        exact ⟨rfl, HH.out.q H1.out, HC.out.q H1.out, Only.of_q H1.out⟩
      · have d1 : decide (y ≤ x) = true := decide_eq_true (by omega)
        clear h hc hm ho hg hp hy hxy
        go_enter Try.func8, Try.ntmps8
        go_wp2_with (first
          | (go_at_call 14; refine HN.out.mono ?_; rintro e w' ⟨rfl, hq⟩; have H1 := Lib.hid hq; have c1 := (HC.out.q hq).c1; clear hq))
        go_ret
        exact ⟨rfl, HH.out.q H1.out, HC.out.q H1.out, Only.of_q H1.out⟩
    · simp only [if_neg hy]
      have d1 : decide (y ≤ x) = false := decide_eq_false (by omega)
      have d2 : decide (4611686018427387903 < y) = false := decide_eq_false (by omega)
      have HU := Lib.hid (fun w1 (hq : Q w w1) => nudge_ok s mb n D p room w1 (h.q hq) hp)
      by_cases hb : p.bad
      · rw [Pw.err_bad hb] at HU ⊢
        simp only [show ¬ ((9 : Nat) = 0) by decide, if_false]
        clear h hc hm ho hg hp hy
        go_enter Try.func8, Try.ntmps8
        go_wp2_with (first
          | (go_at_call 14; refine HN.out.mono ?_; rintro e w' ⟨rfl, hq⟩; have H1 := Lib.hid hq; have c1 := (HC.out.q hq).c1; have c0 := (HC.out.q hq).c0; clear hq)
          | (go_at_call 15; refine (HU.out _ H1.out).mono ?_; rintro e w2 ⟨rfl, hs1, hs2⟩; have H2 := Lib.hid hs1; have H3 := Lib.hid hs2; clear hs1 hs2))
        go_ret
        exact ⟨rfl, H2.out, (HC.out.q H1.out).only H3.out hcs, (Only.of_q H1.out).trans (H3.out.mono fun k hk => Or.inl hk)⟩
      · rw [Pw.err_good hb] at HU ⊢
        simp only [if_true]
        clear h hc hm ho hg hp hy
        go_enter Try.func8, Try.ntmps8
        go_wp2_with (first
          | (go_at_call 14; refine HN.out.mono ?_; rintro e w' ⟨rfl, hq⟩; have H1 := Lib.hid hq; have c1 := (HC.out.q hq).c1; have c0 := (HC.out.q hq).c0; clear hq)
          | (go_at_call 15; refine (HU.out _ H1.out).mono ?_; rintro e w2 ⟨rfl, hs1, hs2⟩; have H2 := Lib.hid hs1; have H3 := Lib.hid hs2; have H4 := Lib.hid ((HC.out.q H1.out).only H3.out hcs); have z1 := H4.out.fr 1; have c1b := H4.out.c1; clear hs1 hs2))
        go_ret
        have ho1 := only_set w2 c 1 (.int .i64 y)
        exact ⟨rfl, H2.out.only ho1 (fun e => hcs e.symm) (fun e => hcm e.symm), H4.out.put y, (Only.of_q H1.out).trans ((H3.out.mono fun k hk => Or.inl hk).trans (ho1.mono fun k hk => Or.inr hk))⟩
end Go.Proofs.Ytffpaeljnfmmiaa
