/- The walks through glyph's Out: fail, num. -/
import Derived.Test.YtffenfhbiapefaaGly
import Derived.Test.YtffenfhbiapefaaOwn
import Derived.Test.YtffenfhbiapefaaApd
namespace Go.Proofs.Ytffenfhbiapefaa
set_option linter.unusedVariables false
set_option linter.unusedSimpArgs false
open Go.RowKit

/-- An Out in block g: the bytes L are in v, the error is e. -/
structure OutHas (w : World) (base g e : Nat) (L : List Nat) (v : Value) : Prop where
  row : w.rowIs g 82 2 (fun i => if i = 0 then v else .int .i64 (e : Int))
  own : w.ownsRow base 5 1 v L.length (L.map B8)
  far : v.ownBlock ≠ some g
  new : base ≤ g
  byte : ∀ x ∈ L, x ≤ 255
/-- Its blocks. -/
def OutS (g : Nat) (v : Value) (k : Nat) : Prop := k = g ∨ v.ownBlock = some k
/-- Since world w0, where the bytes were in v0. -/
structure OutSt (w0 : World) (v0 : Value) (w : World) (base g e : Nat) (L : List Nat) (v : Value) : Prop where
  has : OutHas w base g e L v
  only : Only (OutS g v0) w0 w
  newV : NewOr w0 v0 v
section
variable {w0 w w1 w' : World} {v0 v v1 : Value} {base g e e' : Nat} {L M : List Nat}
theorem OutHas.lt (h : OutHas w base g e L v) : ∀ k, OutS g v k → k < w.heap.size := fun k hk => by
  rcases hk with rfl | hk
  · exact h.row.lt
  · exact own_lt h.own k hk
theorem OutHas.ge (h : OutHas w base g e L v) : ∀ k, OutS g v k → base ≤ k := fun k hk => by
  rcases hk with rfl | hk
  · exact h.new
  · exact own_block h.own k hk
theorem OutHas.only {S : Nat → Prop} (h : OutHas w base g e L v) (ho : Only S w w') (hS : ∀ k, OutS g v k → ¬ S k) : OutHas w' base g e L v :=
  ⟨ho.row h.row (hS g (.inl rfl)), own_only h.own ho (fun k hk => hS k (.inr hk)), h.far, h.new, h.byte⟩
theorem OutHas.q (h : OutHas w base g e L v) (hq : Q w w') : OutHas w' base g e L v := h.only (S := fun _ => False) (Only.of_q hq) (fun _ _ => id)
theorem OutHas.b (h : OutHas w base g e L v) : w.cell? ⟨g, 0, none⟩ = some v := h.row.cell (i := 0) (by omega)
theorem OutHas.e_ (h : OutHas w base g e L v) : w.cell? ⟨g, 1, none⟩ = some (.int .i64 (e : Int)) := h.row.cell (i := 1) (by omega)
theorem OutSt.refl (h : OutHas w base g e L v) : OutSt w v w base g e L v := ⟨h, Only.refl _ _, fun k hk => .inl hk⟩
theorem OutSt.out (h : OutSt w0 v0 w base g e L v) {k : Nat} (hk : OutS g v k) : OutS g v0 k ∨ w0.heap.size ≤ k := by
  rcases hk with hk | hk
  · exact .inl (.inl hk)
  · rcases h.newV k hk with h' | h'
    · exact .inl (.inr h')
    · exact .inr h'
theorem OutSt.trans {v2 : Value} {e2 : Nat} {L2 : List Nat} (h : OutSt w0 v0 w base g e L v) (k : OutSt w v w' base g e2 L2 v2) : OutSt w0 v0 w' base g e2 L2 v2 :=
  ⟨k.has, h.only.through k.only (fun _ hk => h.out hk), fun j hj => by
    rcases k.newV j hj with h' | h'
    · exact h.newV j h'
    · exact .inr (Nat.le_trans h.only.size h')⟩
/-- The bytes were appended, and stored. -/
theorem OutHas.put (h : OutHas w base g e L v) (hM : ∀ x ∈ M, x ≤ 255) (hown : w1.ownsRow base 5 1 v1 (L.length + M.length) (L.map B8 ++ M.map B8)) (hg : Grew w w1 v v1) :
    OutSt w v (w1.setCell ⟨g, 0, none⟩ v1) base g e (L ++ M) v1 := by
  have hlt := h.row.lt
  have hfar : v1.ownBlock ≠ some g := by
    rcases hg.own with h' | ⟨k, h', hk⟩
    · rw [h']; exact h.far
    · rw [h']; intro e; injection e with e; omega
  refine ⟨⟨?_, ?_, hfar, h.new, ?_⟩, (hg.only (OutS g v) (fun k hk => .inr hk)).setCell (p := ⟨g, 0, none⟩) (.inl rfl) v1, ?_⟩
  · refine ((h.row.of_block (hg.block g hlt h.far)).set 0 v1).congr (fun i hi => ?_)
    match i, hi with
    | 0, _ => rfl
    | 1, _ => rfl
  · rw [List.length_append, List.map_append]
    exact ownsRow_setCell_other hown (a := ⟨g, 0, none⟩) hfar v1
  · intro x hx
    rcases List.mem_append.1 hx with h1 | h1
    · exact h.byte x h1
    · exact hM x h1
  · intro k hk
    rcases hg.own with h' | ⟨j, h', hj⟩
    · exact .inl (h' ▸ hk)
    · rw [h'] at hk; injection hk with hk; exact .inr (by omega)
/-- The error was stored. -/
theorem OutHas.err (h : OutHas w base g e L v) (e' : Nat) : OutSt w v (w.setCell ⟨g, 1, none⟩ (.int .i64 (e' : Int))) base g e' L v := by
  refine ⟨⟨?_, ownsRow_setCell_other h.own (a := ⟨g, 1, none⟩) h.far _, h.far, h.new, h.byte⟩, (Only.refl _ w).setCell (p := ⟨g, 1, none⟩) (.inl rfl) _, fun k hk => .inl hk⟩
  refine (h.row.set 1 _).congr (fun i hi => ?_)
  match i, hi with
  | 0, _ => rfl
  | 1, _ => rfl
end
/-- The first error stays. -/
def err1 (e e' : Nat) : Nat := if e = 0 then e' else e
/-- What a call leaves that hands nothing back. -/
def OutDone (w : World) (base g e : Nat) (L : List Nat) (v : Value) (e_ : Ending) (w' : World) : Prop := ∃ v', e_ = .returned (.tuple #[]) ∧ OutSt w v w' base g e L v'

set_option maxHeartbeats 1000000 in
theorem fail_ok (base g e e' : Nat) (L : List Nat) (v : Value) (w : World) (h : OutHas w base g e L v) :
    Calls Try.prog 62 #[.pointer (some ⟨g, 0, none⟩), .int .i64 (e' : Int)] w (OutDone w base g (err1 e e') L v) := by
  have c1 := h.e_
  have z1 := h.row.frozen 1
  have HE := Lib.hid (fun e' => h.err e')
  have HR := Lib.hid (OutSt.refl h)
  clear h
  unfold err1
  by_cases h0 : e = 0
  · rw [if_pos h0]
    have d : ((e : Int) == 0) = true := by rw [h0]; rfl
    clear h0
    go_enter Try.func62, Try.ntmps62
    go_wp2
    go_end0
    exact ⟨_, rfl, HE.out _⟩
  · rw [if_neg h0]
    have d : ((e : Int) == 0) = false := beq_eq_false_iff_ne.2 (by omega)
    clear h0
    go_enter Try.func62, Try.ntmps62
    go_wp2
    go_end0
    exact ⟨_, rfl, HR.out⟩

theorem or8 {x : Nat} (hx : x ≤ 255) : bits .or .u8 (x : Int) 128 = ((x % 128 + 128 : Nat) : Int) := by
  have h : ∀ y : Fin 256, bits .or .u8 ((y.val : Nat) : Int) 128 = ((y.val % 128 + 128 : Nat) : Int) := by decide +kernel
  exact h ⟨x, by omega⟩
theorem wrap_u8 (n : Nat) : IntKind.u8.wrap (n : Int) = ((n % 256 : Nat) : Int) := by
  simp [IntKind.wrap, IntKind.bits, IntKind.signed]

set_option maxHeartbeats 8000000 in
set_option maxRecDepth 100000 in
theorem num_ok (base g e n : Nat) (L : List Nat) (v : Value) (w : World) (h : OutHas w base g e L v) (hn : n < 4611686018427387904) (hL : L.length ≤ 100000000000) :
    Calls Try.prog 49 #[.pointer (some ⟨g, 0, none⟩), .int .i64 (n : Int)] w (OutDone w base g e (L ++ numL n) v) := by
  obtain ⟨i0, hi, hz0, hz1, hz2⟩ := info_parts info8
  have HR := Lib.hid (OutSt.refl h)
  have hbase : base ≤ w.heap.size := by have := h.row.lt; have := h.new; omega
  have h9 := numL_nine hn
  have HEND : Hid (L ++ numL n = L ++ numL n) := rfl
  have H0 : Hid ((L ++ []) ++ numL n = L ++ numL n ∧ ([] : List Nat).length ≤ 9) := ⟨by simp, by simp⟩
  clear h
  go_enter Try.func49, Try.ntmps49
  go_wp2_with fail
  go_loopw [1] (fun x wr => ∃ (m : Nat) (v' : Value) (M : List Nat), x = .int .i64 m ∧ m < 4611686018427387904 ∧ Hid (OutSt w v wr base g e M v' ∧ M ++ numL m = L ++ numL n)) (fun x _ => (intOf x).toNat)
  case atStart => exact ⟨n, v, L, rfl, hn, HR.out, rfl⟩
  case round =>
    obtain ⟨m, v', M, rfl, hm, HS⟩ := hrel
    have hMl : M.length ≤ 100000000009 := by have := congrArg List.length HS.out.2; rw [List.length_append, List.length_append] at this; omega
    have c0 := HS.out.1.has.b
    have z0 := HS.out.1.has.row.frozen 0
    have hb2 : base ≤ wr.heap.size := Nat.le_trans hbase HS.out.1.only.size
    have hgl := HS.out.1.has.row.lt
    by_cases hb : 128 ≤ m
    · have ho8 := or8 (x := m % 256) (by omega)
      have hmm : m % 256 % 128 + 128 = m % 128 + 128 := by omega
      rw [hmm] at ho8
      obtain ⟨y, hy⟩ : ∃ y, y = m % 128 + 128 := ⟨_, rfl⟩
      rw [← hy] at ho8
      have ho8 : bits .or .u8 ((m : Int) % 256) 128 = (y : Int) := by rw [show ((m : Int) % 256) = ((m % 256 : Nat) : Int) by omega]; exact ho8
      have HYb : Hid (numL m = y :: numL (m / 128)) := by show _ = _; rw [numL_big hb, hy]
      have hy255 : y ≤ 255 := by omega
      clear hy hmm
      go_wp2_with (at_builtin; go_loud (refine wpList_append_one rfl (.tmp 20) (.tmp 24) 40 rfl base 5 i0 (.int .u8 0) 1 Try.underlying40 hi hz0 hz1 hz2 rfl v' M.length _ rfl HS.out.1.has.own (.int .u8 (y : Int)) _ _ rfl rfl rfl (by unfold maxLen; omega) (by omega) hb2 ?_; intro v1 w1 hown1 hgr hne; obtain ⟨gg, cap, rfl⟩ := Go.Joins.ownsRow_form hown1 (by omega); have cc := (hgr.cell (p := ⟨g, 0, none⟩) hgl HS.out.1.has.far).trans c0; have zz := (HS.out.1.has.row.of_block (hgr.block g hgl HS.out.1.has.far)).frozen 0; have HN := Lib.hid (HS.out.1.trans (HS.out.1.has.put (M := [y]) (by simp; omega) hown1 hgr)); clear hown1 hgr hne))
      go_roundw
      case rel => exact ⟨m / 128, _, M ++ [y], by go_num, by omega, HN.out, by rw [List.append_assoc, ← HS.out.2, HYb.out]; rfl⟩
      case measure => simp [intOf]; omega
    · have HYs : Hid (numL m = [m]) := numL_small (by omega)
      go_wp2_with (at_builtin; go_loud (refine wpList_append_one rfl (.tmp 32) (.tmp 35) 40 rfl base 5 i0 (.int .u8 0) 1 Try.underlying40 hi hz0 hz1 hz2 rfl v' M.length _ rfl HS.out.1.has.own (.int .u8 (m : Int)) _ _ rfl rfl rfl (by unfold maxLen; omega) (by omega) hb2 ?_; intro v1 w1 hown1 hgr hne; obtain ⟨gg, cap, rfl⟩ := Go.Joins.ownsRow_form hown1 (by omega); have cc := (hgr.cell (p := ⟨g, 0, none⟩) hgl HS.out.1.has.far).trans c0; have zz := (HS.out.1.has.row.of_block (hgr.block g hgl HS.out.1.has.far)).frozen 0; have HN := Lib.hid (HS.out.1.trans (HS.out.1.has.put (M := [m]) (by simp; omega) hown1 hgr)); clear hown1 hgr hne))
      go_end0
      exact ⟨_, rfl, by rw [← HS.out.2, HYs.out]; exact HN.out⟩
set_option maxHeartbeats 4000000 in
theorem num_bad (base g e : Nat) (n : Int) (L : List Nat) (v : Value) (w : World) (h : OutHas w base g e L v) (hn : n < 0 ∨ 4611686018427387904 ≤ n) :
    Calls Try.prog 49 #[.pointer (some ⟨g, 0, none⟩), .int .i64 n] w (OutDone w base g (err1 e 1) L v) := by
  have hf := Lib.hid (show Calls Try.prog 62 #[.pointer (some ⟨g, 0, none⟩), .int .i64 1] w (OutDone w base g (err1 e 1) L v) from fail_ok base g e 1 L v w h)
  clear h
  rcases hn with hn | hn
  · go_enter Try.func49, Try.ntmps49
    go_wp2_with (go_at_call 62; go_loud ((with_reducible refine hf.out.mono ?_); rintro e w1 ⟨v1, rfl, h1⟩; have H1 := Lib.hid h1; clear h1))
    go_end0
    exact ⟨_, rfl, H1.out⟩
  · have hn0 : ¬ n < 0 := by omega
    go_enter Try.func49, Try.ntmps49
    go_wp2_with (go_at_call 62; go_loud ((with_reducible refine hf.out.mono ?_); rintro e w1 ⟨v1, rfl, h1⟩; have H1 := Lib.hid h1; clear h1))
    go_end0
    exact ⟨_, rfl, H1.out⟩

/-- One number more: the error and the bytes. -/
def numStep (s : Nat × List Nat) (z : Int) : Nat × List Nat := if s.1 = 0 then (if 0 ≤ z ∧ z < 4611686018427387904 then (0, s.2 ++ numL z.toNat) else (1, s.2)) else s
theorem numStep_len (s : Nat × List Nat) (z : Int) : (numStep s z).2.length ≤ s.2.length + 9 := by
  unfold numStep
  split
  · split
    · rename_i h
      have := numL_nine (n := z.toNat) (by omega)
      simp; omega
    · simp
  · simp
theorem numSteps_len (zs : List Int) : ∀ s, (zs.foldl numStep s).2.length ≤ s.2.length + 9 * zs.length := by
  induction zs with
  | nil => intro s; simp
  | cons z zs ih => intro s; have h1 := ih (numStep s z); have h2 := numStep_len s z; simp only [List.foldl_cons, List.length_cons]; omega
/-- What a call leaves that hands the Out back. -/
def OutBack (w : World) (base g : Nat) (s : Nat × List Nat) (v : Value) (e_ : Ending) (w' : World) : Prop := ∃ v', e_ = .returned (.pointer (some ⟨g, 0, none⟩)) ∧ OutSt w v w' base g s.1 s.2 v'
theorem num_any (base g : Nat) (z : Int) (L : List Nat) (v : Value) (w : World) (h : OutHas w base g 0 L v) (hL : L.length ≤ 100000000000) :
    Calls Try.prog 49 #[.pointer (some ⟨g, 0, none⟩), .int .i64 z] w (OutDone w base g (numStep (0, L) z).1 (numStep (0, L) z).2 v) := by
  unfold numStep
  rw [if_pos rfl]
  by_cases hz : 0 ≤ z ∧ z < 4611686018427387904
  · rw [if_pos hz]
    obtain ⟨n, rfl⟩ := Int.eq_ofNat_of_zero_le hz.1
    have := num_ok base g 0 n L v w h (by omega) hL
    simpa using this
  · rw [if_neg hz]
    exact num_bad base g 0 z L v w h (by omega)

set_option maxHeartbeats 8000000 in
set_option maxRecDepth 100000 in
theorem nums_ok (base g e c : Nat) (A : Option Addr) (zs : List Int) (L : List Nat) (v : Value) (ok : Nat → Prop) (w : World) (h : OutHas w base g e L v) (hs : SeesP w ok A (zs.map (.int .i64))) (hok : ∀ k, ok k → k < w.heap.size ∧ ¬ OutS g v k) (hL : L.length + 9 * zs.length ≤ 100000000000) (hz : zs.length ≤ 1000000000) :
    Calls Try.prog 33 #[.pointer (some ⟨g, 0, none⟩), .slice A zs.length c] w (OutBack w base g (zs.foldl numStep (e, L)) v) := by
  have HR := Lib.hid (OutSt.refl h)
  have HS := Lib.hid hs
  have HOK := Lib.hid hok
  obtain ⟨N, hN⟩ : ∃ N, N = zs.length := ⟨_, rfl⟩
  have HN := Lib.hid hN
  rw [← hN] at hL hz ⊢
  have H0 : Hid (∃ v', OutSt w v w base g ((zs.take 0).foldl numStep (e, L)).1 ((zs.take 0).foldl numStep (e, L)).2 v') := ⟨v, HR.out⟩
  clear h hs hok hN
  go_enter Try.func33, Try.ntmps33
  go_wp2_with fail
  go_loopw [9] (fun i wr => ∃ k : Nat, k ≤ N ∧ i = .int .i64 k ∧ Hid (∃ v', OutSt w v wr base g ((zs.take k).foldl numStep (e, L)).1 ((zs.take k).foldl numStep (e, L)).2 v')) (fun i _ => N - (intOf i).toNat)
  case atStart => exact ⟨0, by omega, rfl, H0.out⟩
  case round =>
    obtain ⟨k, hk, rfl, HW⟩ := hrel
    obtain ⟨v', hst⟩ := HW.out
    have HST := Lib.hid hst
    clear hst
    by_cases hlt : k < N
    · have hkl : k < zs.length := by rw [← HN.out]; exact hlt
      obtain ⟨bb, oo, rfl, hbb, hc⟩ := (HST.out.only.sees HS.out HOK.out).at_ (k := k) (u := .int .i64 zs[k]) (by simp [hkl])
      have HNX : Hid ((zs.take (k + 1)).foldl numStep (e, L) = numStep ((zs.take k).foldl numStep (e, L)) zs[k]) := by show _ = _; rw [List.take_succ_eq_append_getElem hkl, List.foldl_append]; rfl
      have hlen := numSteps_len (zs.take k) (e, L)
      rw [List.length_take] at hlen
      generalize zs[k] = z at *
      have c1 := HST.out.has.e_
      by_cases he : ((zs.take k).foldl numStep (e, L)).1 = 0
      · have hst0 : (zs.take k).foldl numStep (e, L) = (0, ((zs.take k).foldl numStep (e, L)).2) := by rw [← he]
        have HAS := HST.out.has
        rw [he] at HAS
        have hnum := Lib.hid (num_any base g z _ v' wr HAS (by simp only at hlen; omega))
        have HE := Lib.hid he
        have hd : ((((zs.take k).foldl numStep (e, L)).1 : Int) == 0) = true := by rw [he]; rfl
        rw [← hst0] at hnum
        have HST0 := Lib.hid hst0
        clear HAS hst0 he hbb hlen
        go_wp2_with (go_at_call 49; go_loud ((with_reducible refine hnum.out.mono ?_); rintro e w1 ⟨v1, rfl, h1⟩; have H1 := Lib.hid (HST.out.trans h1); clear h1))
        go_roundw
        case rel => exact ⟨k + 1, by omega, by go_num, _, by rw [HNX.out]; exact H1.out⟩
        case measure => simp [intOf]; omega
      · have hd : ((((zs.take k).foldl numStep (e, L)).1 : Int) == 0) = false := beq_eq_false_iff_ne.2 (by omega)
        have HNX2 : Hid ((zs.take (k + 1)).foldl numStep (e, L) = (zs.take k).foldl numStep (e, L)) := by show _ = _; rw [HNX.out]; exact if_neg he
        clear he hbb hlen
        go_wp2_with fail
        go_roundw
        case rel => exact ⟨k + 1, by omega, by go_num, _, by rw [HNX2.out]; exact HST.out⟩
        case measure => simp [intOf]; omega
    · have HE : Hid (OutSt w v wr base g (zs.foldl numStep (e, L)).1 (zs.foldl numStep (e, L)).2 v') := by
        have h1 := HST.out
        rw [List.take_of_length_le (by rw [← HN.out]; omega)] at h1
        exact h1
      clear HST HW
      go_wp2_with fail
      go_ret
      exact ⟨v', rfl, HE.out⟩
end Go.Proofs.Ytffenfhbiapefaa
