/- The walks through glyph's Out: Text, Raw, Flag, Bytes, Begin. -/
import Derived.Test.YtffenfhbiapefaaGlyA
import Derived.Test.YtffenfhbiapefaaAppS
import Derived.Test.YtffenfhbiapefaaShelf
import Derived.Deep.QuietTactic
import Derived.BigQuiet
import Derived.Lib.SlBytesConst
import Derived.Test.YtffenfhbiapefaaStr
namespace Go.Proofs.Ytffenfhbiapefaa
set_option linter.unusedVariables false
set_option linter.unusedSimpArgs false
open Go.RowKit

section
/-- One text more. -/
def textStep (s : Nat × List Nat) (t : ByteArray) : Nat × List Nat := if s.1 = 0 then (if t.size ≤ 131072 then (0, s.2 ++ (numL t.size ++ bytesOf t)) else (4, s.2)) else s
theorem textStep_len (s : Nat × List Nat) (t : ByteArray) : (textStep s t).2.length ≤ s.2.length + 131081 := by
  unfold textStep
  split
  · split
    · rename_i h
      have := numL_nine (n := t.size) (by omega)
      simp [bytesOf_len]; omega
    · simp
  · simp
theorem textSteps_len (ts : List ByteArray) : ∀ s, (ts.foldl textStep s).2.length ≤ s.2.length + 131081 * ts.length := by
  induction ts with
  | nil => intro s; simp
  | cons z zs ih => intro s; have h1 := ih (textStep s z); have h2 := textStep_len s z; simp only [List.foldl_cons, List.length_cons]; omega

set_option maxHeartbeats 16000000 in
set_option maxRecDepth 100000 in
theorem texts_ok (base g e c : Nat) (A : Option Addr) (zs : List ByteArray) (L : List Nat) (v : Value) (ok : Nat → Prop) (w : World) (h : OutHas w base g e L v) (hs : SeesP w ok A (zs.map .string)) (hok : ∀ k, ok k → k < w.heap.size ∧ ¬ OutS g v k) (hL : L.length + 131081 * zs.length ≤ 50000000000) (hz : zs.length ≤ 100000) (hm : ∀ t ∈ zs, t.size ≤ 9223372036854775807) :
    Calls Try.prog 50 #[.pointer (some ⟨g, 0, none⟩), .slice A zs.length c] w (OutBack w base g (zs.foldl textStep (e, L)) v) := by
  obtain ⟨i0, hi, hz0, hz1, hz2⟩ := info_parts info8
  have HR := Lib.hid (OutSt.refl h)
  have HS := Lib.hid hs
  have HOK := Lib.hid hok
  have HM := Lib.hid hm
  have hbase : base ≤ w.heap.size := by have := h.row.lt; have := h.new; omega
  obtain ⟨N, hN⟩ : ∃ N, N = zs.length := ⟨_, rfl⟩
  have HN := Lib.hid hN
  rw [← hN] at hL hz ⊢
  have H0 : Hid (∃ v', OutSt w v w base g ((zs.take 0).foldl textStep (e, L)).1 ((zs.take 0).foldl textStep (e, L)).2 v') := ⟨v, HR.out⟩
  clear h hs hok hN hm
  go_enter Try.func50, Try.ntmps50
  go_wp2_with fail
  go_loopw [9] (fun i wr => ∃ k : Nat, k ≤ N ∧ i = .int .i64 k ∧ Hid (∃ v', OutSt w v wr base g ((zs.take k).foldl textStep (e, L)).1 ((zs.take k).foldl textStep (e, L)).2 v')) (fun i _ => N - (intOf i).toNat)
  case atStart => exact ⟨0, by omega, rfl, H0.out⟩
  case round =>
    obtain ⟨k, hk, rfl, HW⟩ := hrel
    obtain ⟨v', hst⟩ := HW.out
    have HST := Lib.hid hst
    clear hst
    by_cases hlt : k < N
    · have hkl : k < zs.length := by rw [← HN.out]; exact hlt
      obtain ⟨bb, oo, rfl, hbb, hc⟩ := (HST.out.only.sees HS.out HOK.out).at_ (k := k) (u := .string zs[k]) (by simp [hkl])
      have HNX : Hid ((zs.take (k + 1)).foldl textStep (e, L) = textStep ((zs.take k).foldl textStep (e, L)) zs[k]) := by show _ = _; rw [List.take_succ_eq_append_getElem hkl, List.foldl_append]; rfl
      have hlen := textSteps_len (zs.take k) (e, L)
      rw [List.length_take] at hlen
      have hzm := HM.out zs[k] (List.getElem_mem hkl)
      generalize zs[k] = z at *
      have c1 := HST.out.has.e_
      obtain ⟨st, hst⟩ : ∃ st, st = (zs.take k).foldl textStep (e, L) := ⟨_, rfl⟩
      rw [← hst] at HST c1 HNX hlen
      have hl2 : st.2.length ≤ 50000000000 := by simp only at hlen; omega
      clear hst hlen HW
      obtain ⟨e0, L0⟩ := st
      simp only at c1 hl2
      by_cases he : e0 = 0
      · subst he
        by_cases hsz : z.size ≤ 131072
        · have hnum := Lib.hid (num_ok base g 0 z.size L0 v' wr HST.out.has (by omega) (by omega))
          have HNS : Hid (textStep (0, L0) z = (0, L0 ++ (numL z.size ++ bytesOf z))) := by show _ = _; unfold textStep; rw [if_pos rfl, if_pos hsz]
          have h9 := numL_nine (n := z.size) (by omega)
          have hb2 : base ≤ wr.heap.size := Nat.le_trans hbase HST.out.only.size
          clear hbb
          go_wp2_with (first
            | (go_at_call 49; go_loud ((with_reducible refine hnum.out.mono ?_); rintro e w1 ⟨v1, rfl, h1⟩; have H1 := Lib.hid (HST.out.trans h1); have HH := Lib.hid h1.has; have c0 := h1.has.b; have z0 := h1.has.row.frozen 0; have hgl := h1.has.row.lt; have hb3 : base ≤ w1.heap.size := Nat.le_trans hb2 h1.only.size; clear h1))
            | (at_builtin; go_loud (refine wpList_append_str rfl (.tmp 21) (.tmp 22) 40 9 rfl base 5 i0 Try.underlying40 Try.underlying9 hi hz0 hz1 hz2 v1 _ _ rfl HH.out.own z rfl (by rw [List.length_append]; unfold maxLen; omega) (by rw [List.length_append]; omega) hb3 ?_; intro v2 w2 hown2 hgr2; obtain ⟨B2, bc2, rfl⟩ := own_form hown2; have cc := (hgr2.cell (p := ⟨g, 0, none⟩) hgl HH.out.far).trans c0; have zz := (HH.out.row.of_block (hgr2.block g hgl HH.out.far)).frozen 0; have H2 := Lib.hid (H1.out.trans (HH.out.put (M := bytesOf z) (bytesOf_byte z) (by rw [bytesOf_len]; exact hown2) hgr2)); clear hown2 hgr2)))
          go_roundw
          case rel => exact ⟨k + 1, by omega, by go_num, _, by rw [HNX.out, HNS.out, ← List.append_assoc]; have h2 := H2.out; rw [List.length_append] at h2; exact h2⟩
          case measure => simp [intOf]; omega
        · have hf := Lib.hid (show Calls Try.prog 62 #[.pointer (some ⟨g, 0, none⟩), .int .i64 4] wr (OutDone wr base g 4 L0 v') from fail_ok base g 0 4 L0 v' wr HST.out.has)
          have HNS : Hid (textStep (0, L0) z = (4, L0)) := by show _ = _; unfold textStep; rw [if_pos rfl, if_neg hsz]
          clear hbb
          go_wp2_with (go_at_call 62; go_loud ((with_reducible refine hf.out.mono ?_); rintro e w1 ⟨v1, rfl, h1⟩; have H1 := Lib.hid (HST.out.trans h1); clear h1))
          go_roundw
          case rel => exact ⟨k + 1, by omega, by go_num, _, by rw [HNX.out, HNS.out]; exact H1.out⟩
          case measure => simp [intOf]; omega
      · have hd : ((e0 : Int) == 0) = false := beq_eq_false_iff_ne.2 (by omega)
        have hd' : ((e0 : Int) != 0) = true := bne_iff_ne.2 (by omega)
        have HNS : Hid (textStep (e0, L0) z = (e0, L0)) := by show _ = _; exact if_neg he
        clear he hbb
        go_wp2_with fail
        go_roundw
        case rel => exact ⟨k + 1, by omega, by go_num, _, by rw [HNX.out, HNS.out]; exact HST.out⟩
        case measure => simp [intOf]; omega
    · have HE : Hid (OutSt w v wr base g (zs.foldl textStep (e, L)).1 (zs.foldl textStep (e, L)).2 v') := by
        have h1 := HST.out
        rw [List.take_of_length_le (by rw [← HN.out]; omega)] at h1
        exact h1
      clear HST HW
      go_wp2_with fail
      go_ret
      exact ⟨v', rfl, HE.out⟩
end

section
/-- A part more, as it is. -/
def rawStep (s : Nat × List Nat) (l : List Nat) : Nat × List Nat := if s.1 = 0 then (0, s.2 ++ l) else s
theorem rawSteps_len (zs : List (Value × List Nat)) : ∀ s, ((zs.map (·.2)).foldl rawStep s).2.length ≤ s.2.length + (zs.flatMap (·.2)).length := by
  induction zs with
  | nil => intro s; simp
  | cons z zs ih =>
    intro s
    have h1 := ih (rawStep s z.2)
    have h2 : (rawStep s z.2).2.length ≤ s.2.length + z.2.length := by unfold rawStep; split <;> simp
    simp only [List.map_cons, List.foldl_cons, List.flatMap_cons, List.length_append]; omega
/-- The parts that come in. -/
def PartsIn (w : World) (ok : Nat → Prop) (parts : List (Value × List Nat)) : Prop :=
  ∀ z ∈ parts, ∃ B c, z.1 = .slice B z.2.length c ∧ SeesP w ok B (z.2.map B8) ∧ (∀ x ∈ z.2, x ≤ 255) ∧ (B = none → c = 0)

set_option maxHeartbeats 16000000 in
set_option maxRecDepth 100000 in
theorem raws_ok (base g e c : Nat) (A : Option Addr) (zs : List (Value × List Nat)) (L : List Nat) (v : Value) (ok : Nat → Prop) (w : World) (h : OutHas w base g e L v) (hs : SeesP w ok A (zs.map (·.1))) (hps : PartsIn w ok zs) (hok : ∀ k, ok k → k < w.heap.size ∧ ¬ OutS g v k) (hL : L.length + (zs.flatMap (·.2)).length ≤ 50000000000) (hz : zs.length ≤ 100000) :
    Calls Try.prog 63 #[.pointer (some ⟨g, 0, none⟩), .slice A zs.length c] w (OutBack w base g ((zs.map (·.2)).foldl rawStep (e, L)) v) := by
  obtain ⟨i0, hi, hz0, hz1, hz2⟩ := info_parts info8
  have HR := Lib.hid (OutSt.refl h)
  have HS := Lib.hid hs
  have HPS := Lib.hid hps
  have HOK := Lib.hid hok
  have hbase : base ≤ w.heap.size := by have := h.row.lt; have := h.new; omega
  obtain ⟨N, hN⟩ : ∃ N, N = zs.length := ⟨_, rfl⟩
  have HN := Lib.hid hN
  have HLL := Lib.hid hL
  rw [← hN] at hz ⊢
  have H0 : Hid (∃ v', OutSt w v w base g (((zs.take 0).map (·.2)).foldl rawStep (e, L)).1 (((zs.take 0).map (·.2)).foldl rawStep (e, L)).2 v') := ⟨v, HR.out⟩
  clear h hs hok hN hps hL
  go_enter Try.func63, Try.ntmps63
  go_wp2_with fail
  go_loopw [9] (fun i wr => ∃ k : Nat, k ≤ N ∧ i = .int .i64 k ∧ Hid (∃ v', OutSt w v wr base g (((zs.take k).map (·.2)).foldl rawStep (e, L)).1 (((zs.take k).map (·.2)).foldl rawStep (e, L)).2 v')) (fun i _ => N - (intOf i).toNat)
  case atStart => exact ⟨0, by omega, rfl, H0.out⟩
  case round =>
    obtain ⟨k, hk, rfl, HW⟩ := hrel
    obtain ⟨v', hst⟩ := HW.out
    have HST := Lib.hid hst
    clear hst
    by_cases hlt : k < N
    · have hkl : k < zs.length := by rw [← HN.out]; exact hlt
      obtain ⟨B, c', hb1, hb2, hb3, hb4⟩ := HPS.out zs[k] (List.getElem_mem hkl)
      obtain ⟨bb, oo, rfl, hbb, hc⟩ := (HST.out.only.sees HS.out HOK.out).at_ (k := k) (u := zs[k].1) (by simp [hkl])
      rw [hb1] at hc
      have HNX : Hid (((zs.take (k + 1)).map (·.2)).foldl rawStep (e, L) = rawStep (((zs.take k).map (·.2)).foldl rawStep (e, L)) zs[k].2) := by show _ = _; rw [List.take_succ_eq_append_getElem hkl, List.map_append, List.foldl_append]; rfl
      have hlen := rawSteps_len (zs.take k) (e, L)
      have hlen2 : ((zs.take k).flatMap (·.2)).length + zs[k].2.length ≤ (zs.flatMap (·.2)).length := by
        conv => rhs; rw [← List.take_append_drop (k + 1) zs, List.flatMap_append, List.length_append, List.take_succ_eq_append_getElem hkl, List.flatMap_append, List.length_append]
        simp
      have hLL := HLL.out
      have HB2 := Lib.hid (HST.out.only.sees hb2 HOK.out)
      have HB3 := Lib.hid hb3
      have HB4 := Lib.hid hb4
      generalize zs[k].2 = z at *
      have c1 := HST.out.has.e_
      have c0 := HST.out.has.b
      have z0 := HST.out.has.row.frozen 0
      have hgl := HST.out.has.row.lt
      obtain ⟨st, hst⟩ : ∃ st, st = ((zs.take k).map (·.2)).foldl rawStep (e, L) := ⟨_, rfl⟩
      rw [← hst] at HST c1 HNX hlen
      have hl2 : st.2.length + z.length ≤ 50000000000 := by simp only at hlen; omega
      have hbs : base ≤ wr.heap.size := Nat.le_trans hbase HST.out.only.size
      obtain ⟨m, hm⟩ : ∃ m, m = z.length := ⟨_, rfl⟩
      have HM := Lib.hid hm
      rw [← hm] at hc hl2
      clear hst hlen HW hlen2 hLL hb1 hb2 hb3 hb4 hbb hm
      obtain ⟨e0, L0⟩ := st
      simp only at c1 hl2
      by_cases he : e0 = 0
      · subst he
        have HNS : Hid (rawStep (0, L0) z = (0, L0 ++ z)) := rfl
        go_wp2_with (at_builtin; go_loud (refine wpList_append_row rfl (.tmp 26) (.tmp 27) 40 rfl base 5 i0 (.int .u8 0) 1 Try.underlying40 hi hz0 hz1 hz2 rfl v' L0.length _ rfl HST.out.has.own ok B m c' (z.map B8) rfl HB4.out (by rw [List.length_map, HM.out]) HB2.out (B8_one _) (by unfold maxLen; omega) (by omega) hbs ?_; intro v2 w2 hown2 hgr2; obtain ⟨B2, bc2, rfl⟩ := own_form hown2; have cc := (hgr2.cell (p := ⟨g, 0, none⟩) hgl HST.out.has.far).trans c0; have zz := (HST.out.has.row.of_block (hgr2.block g hgl HST.out.has.far)).frozen 0; have H2 := Lib.hid (HST.out.trans (HST.out.has.put (M := z) HB3.out (by rw [← HM.out]; exact hown2) hgr2)); clear hown2 hgr2))
        go_roundw
        case rel => exact ⟨k + 1, by omega, by go_num, _, by rw [HNX.out, HNS.out]; exact H2.out⟩
        case measure => simp [intOf]; omega
      · have hd : ((e0 : Int) == 0) = false := beq_eq_false_iff_ne.2 (by omega)
        have HNS : Hid (rawStep (e0, L0) z = (e0, L0)) := by show _ = _; exact if_neg he
        clear he
        go_wp2_with fail
        go_roundw
        case rel => exact ⟨k + 1, by omega, by go_num, _, by rw [HNX.out, HNS.out]; exact HST.out⟩
        case measure => simp [intOf]; omega
    · have HE : Hid (OutSt w v wr base g ((zs.map (·.2)).foldl rawStep (e, L)).1 ((zs.map (·.2)).foldl rawStep (e, L)).2 v') := by
        have h1 := HST.out
        rw [List.take_of_length_le (by rw [← HN.out]; omega)] at h1
        exact h1
      clear HST HW
      go_wp2_with fail
      go_ret
      exact ⟨v', rfl, HE.out⟩

/-- A clone. -/
def Cloned (w : World) (L : List Nat) (e : Ending) (w' : World) : Prop := ∃ v', e = .returned v' ∧ w'.ownsRow w.heap.size 5 1 v' L.length (L.map B8) ∧ Q w w'
theorem clone_ok (A : Option Addr) (c : Nat) (ok : Nat → Prop) (L : List Nat) (w : World) (hs : SeesP w ok A (L.map B8)) (hl : L.length ≤ 140737488355328) :
    Calls Try.prog 52 #[.slice A L.length c] w (Cloned w L) := by
  rcases A with _ | a
  · have hL : L = [] := by
      rcases Classical.em (L = []) with h | h
      · exact h
      · obtain ⟨b, o, e, _⟩ := hs (by simpa using h); cases e
    subst hL
    exact (Try.bytes_Clone_nil 0 c w).mono fun e w' ⟨h1, h2⟩ => ⟨_, h1, by subst h2; exact World.ownsRow_nil _ _ _ _, by subst h2; exact Q.refl _⟩
  · refine (Try.bytes_Clone_at a L.length c (L.map (fun x : Nat => (x : Int))) w (by simp) hl (fun i hi => ?_)).mono fun e w' ⟨v', h1, h2, h3, h4⟩ => ⟨v', h1, ?_, h4⟩
    · obtain ⟨b, o, e, _, hc⟩ := hs.at_ (k := i) (u := B8 L[i]) (by simp [hi])
      injection e with e
      subst e
      have : (⟨b, o, none⟩ : Addr).add i = ⟨b, o + i, none⟩ := by
        unfold Addr.add
        split
        · rename_i h; subst h; rfl
        · rfl
      rw [this, hc]; simp [B8, hi]
    · rw [List.map_map] at h2; exact h2

set_option maxHeartbeats 1000000 in
theorem bytes_nil (w : World) : Calls Try.prog 35 #[.pointer none] w fun e w' => e = .returned (.tuple #[.slice none 0 0, .int .i64 1]) ∧ w = w' := by
  go_enter Try.func35, Try.ntmps35
  go_wp2
  go_ret2
  exact ⟨rfl, rfl⟩
/-- The bytes that Bytes hands back. -/
def GotBytes (w : World) (e : Nat) (L : List Nat) (e_ : Ending) (w' : World) : Prop :=
  ∃ v', e_ = .returned (.tuple #[v', .int .i64 (e : Int)]) ∧ w'.ownsRow w.heap.size 5 1 v' (if e = 0 then L else []).length ((if e = 0 then L else []).map B8) ∧ Q w w'
set_option maxHeartbeats 4000000 in
theorem bytes_ok (base g e : Nat) (L : List Nat) (v : Value) (w : World) (h : OutHas w base g e L v) (hl : L.length ≤ 140737488355328) :
    Calls Try.prog 35 #[.pointer (some ⟨g, 0, none⟩)] w (GotBytes w e L) := by
  have c0 := h.b
  have c1 := h.e_
  unfold GotBytes
  by_cases he : e = 0
  · subst he
    rw [if_pos rfl]
    obtain ⟨A, c, rfl⟩ := own_form h.own
    have hcl := Lib.hid (clone_ok A c _ L w (sees_own h.own) hl)
    clear h
    go_enter Try.func35, Try.ntmps35
    go_wp2_with (go_at_call 52; go_loud ((with_reducible refine hcl.out.mono ?_); rintro e w1 ⟨v1, rfl, h1, h2⟩; obtain ⟨B, bc, rfl⟩ := own_form h1; have H1 := Lib.hid h1; clear h1))
    go_ret2
    exact ⟨_, rfl, H1.out, h2⟩
  · rw [if_neg he]
    have hd : ((e : Int) == 0) = false := beq_eq_false_iff_ne.2 (by omega)
    have hd' : ((e : Int) != 0) = true := bne_iff_ne.2 (by omega)
    clear he h
    go_enter Try.func35, Try.ntmps35
    go_wp2
    go_quiet (fail)
    go_wp2
    go_ret2
    exact ⟨_, rfl, World.ownsRow_nil _ _ _ _, (Q.refl w).drewN _⟩
end

section
section
variable {w0 w w' : World} {v0 v : Value} {base g e : Nat} {L : List Nat}
theorem OutSt.q (h : OutSt w0 v0 w base g e L v) (hq : Q w w') : OutSt w0 v0 w' base g e L v :=
  h.trans ⟨h.has.q hq, Only.of_q hq, fun _ hk => .inl hk⟩
end
theorem alloc_size (w : World) (o : Obj) : (w.alloc o).heap.size = w.heap.size + 1 := by simp
theorem SeesP.newAt (w : World) (cs : List Value) (t : TypeId) : SeesP (w.alloc (.cells cs.toArray t)) (fun k => k = w.heap.size) (some ⟨w.heap.size, 0, none⟩) cs := fun _ =>
  ⟨_, 0, rfl, rfl, fun j u hu => by
    have h := heap_alloc_new w (.cells cs.toArray t)
    simp only [World.cell?, h]
    simpa using hu⟩
theorem SeesP.marked (w : World) (cs : List Value) (t : TypeId) (fz : Nat × Nat) : SeesP (w.alloc (.cells cs.toArray t fz)) (fun k => k = w.heap.size) (some ⟨w.heap.size, 0, none⟩) cs := fun _ =>
  ⟨_, 0, rfl, rfl, fun j u hu => by
    have h := heap_alloc_new w (.cells cs.toArray t fz)
    simp only [World.cell?, h]
    simpa using hu⟩
/-- A row of bytes, and a row with it alone. -/
def twoRows (w : World) (x : Nat) : World := (w.alloc (.cells #[B8 x] 5)).alloc (.cells #[.slice (some ⟨w.heap.size, 0, none⟩) 1 1] 40)
theorem twoRows_q (w : World) (x : Nat) : Q w (twoRows w x) := ((Q.refl w).alloc _).alloc _
theorem raw_new (base g e x : Nat) (hx : x ≤ 255) (L : List Nat) (v : Value) (w : World) (h : OutHas w base g e L v) (hL : L.length ≤ 49999999999) :
    Calls Try.prog 63 #[.pointer (some ⟨g, 0, none⟩), .slice (some ⟨w.heap.size + 1, 0, none⟩) 1 1] (twoRows w x) (OutBack (twoRows w x) base g (rawStep (e, L) [x]) v) := by
  refine raws_ok base g e 1 (some ⟨w.heap.size + 1, 0, none⟩) [(.slice (some ⟨w.heap.size, 0, none⟩) 1 1, [x])] L v (fun k => w.heap.size ≤ k ∧ k < w.heap.size + 2) (twoRows w x) (h.q (twoRows_q w x)) ?_ ?_ ?_ (by simp; omega) (by simp)
  · have h1 := SeesP.newAt (w.alloc (.cells #[B8 x] 5)) [.slice (some ⟨w.heap.size, 0, none⟩) 1 1] 40
    simp only [alloc_size] at h1
    exact h1.more (fun b hb => by subst hb; omega)
  · intro z hz
    rw [List.mem_singleton] at hz
    subst hz
    exact ⟨some ⟨w.heap.size, 0, none⟩, 1, rfl, ((SeesP.newAt w [B8 x] 5).alloc (fun b hb => by subst hb; rw [alloc_size]; omega) _).more (fun b hb => by subst hb; omega), by simpa using hx, fun h => by cases h⟩
  · rintro k ⟨hk1, hk2⟩
    refine ⟨by unfold twoRows; simp only [alloc_size]; omega, fun hO => ?_⟩
    have := h.lt k hO
    omega

/-- append to a row that is full. -/
theorem run_append_full {P : Program} (w : World) (t ty e : TypeId) (i : TypeInfo) (z : Value) (bytes : Nat) (ht : P.underlying t = some (.slice e)) (hi : P.info? e = some i) (hz : i.zero = some z) (hsize : i.size = 1) (hby : i.bytes = bytes) (hzs : z.cells.size = 1)
    (ok ok' : Nat → Prop) (A B : Option Addr) (n m c : Nat) (olds news : List Value) (hlo : olds.length = n) (hln : news.length = m) (hn : 0 < n) (hm : 0 < m) (hso : SeesP w ok A olds) (hsn : SeesP w ok' B news)
    (h63 : n + m ≤ maxLen) (hbytes : (n + m) * bytes ≤ 140737488355328) :
    ∃ v' w', (Builtin.append_ #[t, t] ty #[.slice A n n, .slice B m c]).run P w = .ok v' w' ∧ w'.ownsRow w.heap.size e 1 v' (n + m) (olds ++ news) ∧ Q w w' := by
  have add : ∀ (b o' j : Nat), (⟨b, o', none⟩ : Addr).add j = ⟨b, o' + j, none⟩ := fun b o' j => by
    unfold Addr.add
    split
    · rename_i h; subst h; rfl
    · rfl
  obtain ⟨b, o', rfl, _, hc⟩ := hso (by intro h; rw [h] at hlo; simp at hlo; omega)
  obtain ⟨b2, o2, rfl, _, hc2⟩ := hsn (by intro h; rw [h] at hln; simp at hln; omega)
  have hr := run_append_grow (P := P) w t ty e i z ht hi hz ⟨b, o', none⟩ n n olds (by rw [hsize]; omega) (fun j u hu => by rw [add]; exact hc j u hu) ⟨b2, o2, none⟩ m c news (by rw [hsize]; omega) (fun j u hu => by rw [add]; exact hc2 j u hu) (by omega) (by simp only [maxLen] at h63; omega) (by rw [hby]; exact growslice_fits (by omega) hbytes)
  have hge := grownCap_ge w (n + m) n e
  refine ⟨_, _, hr, ⟨by simp [hlo, hln], .inr ⟨w.heap.size, _, _, rfl, Nat.le_refl _, heap_alloc_new w.drew _, hge, grownCap_le_maxLen w (n + m) n e h63, ?_, ?_⟩⟩, (Q.refl w).drew.alloc _⟩
  · simp only [Array.size_append, List.size_toArray, size_zeroCells, hzs, hlo, hln]
    omega
  · simp only [Array.toList_append]
    rw [show (n + m) * 1 = (olds ++ news).length by simp [hlo, hln]]
    exact List.take_left

theorem wpList_append_full {P : Program} {w : World} {ops : Array Oper} {rest : List Oper} {o : Oper} {a : Act} {Q' : Exit → Act → World → Prop} (hgd : o.guard = none) (s x : Operand) (t : TypeId)
    (ho : o.op = .call { callee := .builtin .append, args := #[s, x], argTypes := #[t, t] })
    (e : TypeId) (i : TypeInfo) (z : Value) (bytes : Nat) (ht : P.underlying t = some (.slice e)) (hi : P.info? e = some i) (hz : i.zero = some z) (hsize : i.size = 1) (hby : i.bytes = bytes) (hzs : z.cells.size = 1)
    (ok ok' : Nat → Prop) (A B : Option Addr) (n m c : Nat) (olds news : List Value) (hs : a.eval s = .slice A n n) (hx : a.eval x = .slice B m c) (hlo : olds.length = n) (hln : news.length = m) (hn : 0 < n) (hm : 0 < m) (hso : SeesP w ok A olds) (hsn : SeesP w ok' B news)
    (h63 : n + m ≤ maxLen) (hbytes : (n + m) * bytes ≤ 140737488355328)
    (h : ∀ v' w', w'.ownsRow w.heap.size e 1 v' (n + m) (olds ++ news) → Q w w' → wpList P ops Q' rest (a.put o.dst v') w') : wpList P ops Q' (o :: rest) a w :=
  wpList_plain hgd fun K hK => by
    obtain ⟨v', w', hr', h2, h3⟩ := run_append_full (P := P) w t o.type e i z bytes ht hi hz hsize hby hzs ok ok' A B n m c olds news hlo hln hn hm hso hsn h63 hbytes
    unfold Oper.wp execOp
    simp only [ho, resolve, invoke, builtin, Sem.run_bind, Sem.run_pure, Result.andThen_ok, List.map_toArray, List.map_cons, List.map_nil, hs, hx, hr']
    exact hK _ _ (h v' w' h2 h3)

/-- A new Out. -/
def OutNew (w : World) (L : List Nat) (e_ : Ending) (w' : World) : Prop := ∃ g v, e_ = .returned (.pointer (some ⟨g, 0, none⟩)) ∧ OutHas w' w.heap.size g 0 L v ∧ Q w w'
set_option maxHeartbeats 4000000 in
theorem begin_ok (k : Nat) (hk : k ≤ 255) (w : World) : Calls Try.prog 32 #[.int .u8 (k : Int)] w (OutNew w [72, 89, k]) := by
  obtain ⟨i0, hi, hz0, hz1, hz2⟩ := info_parts info8
  have kc := fun (w : World) (C : Array Value) (n c : Nat) => Lib.run_convert_bytes_const (P := Try.prog) w 40 5 C n c Try.underlying40 Try.underlying5
  go_enter Try.func32, Try.ntmps32
  have HO := Lib.hid (((SeesP.marked w [.int .u8 72, .int .u8 89] 5 (2, 3)).alloc (fun b hb => by subst hb; rw [alloc_size]; omega) (.cells #[.int .u8 (k : Int)] 5)))
  have HN := Lib.hid (SeesP.newAt (w.alloc (.cells #[.int .u8 72, .int .u8 89] 5 (2, 3))) [.int .u8 (k : Int)] 5)
  have HQ := Lib.hid (((Q.refl w).alloc (.cells #[.int .u8 72, .int .u8 89] 5 (2, 3))).alloc (.cells #[.int .u8 (k : Int)] 5))
  rw [alloc_size] at HN
  go_wp2_with (at_builtin; go_loud (refine wpList_append_full rfl (.tmp 4) (.tmp 6) 40 rfl 5 i0 (.int .u8 0) 1 Try.underlying40 hi hz0 hz1 hz2 rfl _ _ _ _ 2 1 1 _ _ rfl rfl rfl rfl (by omega) (by omega) HO.out HN.out (by unfold maxLen; omega) (by omega) ?_; intro v1 w1 hown1 hq1; obtain ⟨gg, cap, rfl⟩ := own_form hown1; have H1 := Lib.hid (And.intro hown1 hq1); clear hown1 hq1))
  go_ret
  have hQ : Q w w1 := HQ.out.trans (H1.out.2.mono HQ.out.size)
  have hown : w1.ownsRow w.heap.size 5 1 (.slice gg 3 cap) 3 ([72, 89, k].map B8) := own_mono H1.out.1 HQ.out.size
  refine ⟨w1.heap.size, .slice gg 3 cap, rfl, ⟨?_, own_only hown (Only.of_q (S := fun _ => False) ((Q.refl w1).alloc _)) (fun _ _ => id), fun e => ?_, hQ.size, ?_⟩, hQ.alloc _⟩
  · refine (World.rowIs_alloc w1 #[.slice gg 3 cap, .int .i64 0] 82 _ (fun i hi => ?_))
    have hi : i < 2 := hi
    match i, hi with
    | 0, _ => rfl
    | 1, _ => rfl
  · have := own_lt hown _ e
    omega
  · intro x hx
    simp only [List.mem_cons, List.not_mem_nil, or_false] at hx
    omega
end

section
/-- An Out, all of it made since world w0: c things were put in. -/
def OutN (w0 w : World) (g : Nat) (s : Nat × List Nat) (c : Nat) : Prop := ∃ v, OutHas w w0.heap.size g s.1 s.2 v ∧ Q w0 w ∧ s.2.length ≤ 131081 * c
/-- What a call leaves that hands the Out back. -/
def OutR (w0 : World) (g : Nat) (s : Nat × List Nat) (c : Nat) (e : Ending) (w' : World) : Prop := e = .returned (.pointer (some ⟨g, 0, none⟩)) ∧ Hid (OutN w0 w' g s c)
/-- A row of bytes made since world w0. -/
def GotB (w0 w : World) (L : List Nat) (v : Value) : Prop := w.ownsRow w0.heap.size 5 1 v L.length (L.map B8) ∧ Q w0 w ∧ ∀ x ∈ L, x ≤ 255
section
variable {w0 w w' : World} {g c : Nat} {s : Nat × List Nat} {L : List Nat}
theorem OutN.lower {w1 : World} (h : OutN w1 w g s c) (hq : Q w0 w1) : OutN w0 w g s c := by
  obtain ⟨v, h1, h2, h3⟩ := h
  exact ⟨v, ⟨h1.row, own_mono h1.own hq.size, h1.far, Nat.le_trans hq.size h1.new, h1.byte⟩, hq.step h2, h3⟩
theorem OutN.q (h : OutN w0 w g s c) (hq : Q w w') : OutN w0 w' g s c := by
  obtain ⟨v, h1, h2, h3⟩ := h
  exact ⟨v, h1.q hq, h2.step hq, h3⟩
theorem OutN.of_st {v : Value} {w1 w2 : World} {s' : Nat × List Nat} {v' : Value} (h : OutHas w1 w0.heap.size g s.1 s.2 v) (hq : Q w0 w1) (hst : OutSt w1 v w2 w0.heap.size g s'.1 s'.2 v') (hc : s'.2.length ≤ 131081 * c) : OutN w0 w2 g s' c :=
  ⟨v', hst.has, hst.only.q hq (fun k hk => h.ge k hk), hc⟩

theorem begin1 (w : World) (k : Nat) (hk : k ≤ 255) : Calls Try.prog 32 #[.int .u8 (k : Int)] w fun e w' => ∃ g, OutR w g (0, [72, 89, k]) 1 e w' :=
  (begin_ok k hk w).mono fun e w' ⟨g, v, h1, h2, h3⟩ => ⟨g, h1, ⟨v, h2, h3, by simp⟩⟩

theorem nums1 (h : Hid (OutN w0 w g s c)) (zs : List Int) (A : Option Addr) (cp : Nat) (hs : SeesP w (fun k => k < w0.heap.size) A (zs.map (.int .i64))) (hz : zs.length ≤ 1000) (hc : c ≤ 100000) :
    Calls Try.prog 33 #[.pointer (some ⟨g, 0, none⟩), .slice A zs.length cp] w (OutR w0 g (zs.foldl numStep s) (c + 1)) := by
  obtain ⟨v, h1, h2, h3⟩ := h.out
  obtain ⟨e, L⟩ := s
  simp only at h1 h3
  refine (nums_ok w0.heap.size g e cp A zs L v _ w h1 hs (fun k hk => ⟨Nat.lt_of_lt_of_le hk h2.size, fun hO => by have := h1.ge k hO; omega⟩) (by omega) (by omega)).mono ?_
  rintro e' w' ⟨v', rfl, h4⟩
  refine ⟨rfl, OutN.of_st (s := (e, L)) h1 h2 h4 ?_⟩
  have := numSteps_len zs (e, L)
  simp only at this
  omega
theorem num1 (h : Hid (OutN w0 w g s c)) (z : Int) (hc : c ≤ 100000) :
    Calls Try.prog 33 #[.pointer (some ⟨g, 0, none⟩), .slice (some ⟨w.heap.size, 0, none⟩) 1 1] (w.alloc (.cells #[.int .i64 z] 3)) (OutR w0 g (numStep s z) (c + 1)) := by
  obtain ⟨v, h1, h2, h3⟩ := h.out
  obtain ⟨e, L⟩ := s
  simp only at h1 h3
  have hq : Q w (w.alloc (.cells #[.int .i64 z] 3)) := (Q.refl w).alloc _
  refine (nums_ok w0.heap.size g e 1 (some ⟨w.heap.size, 0, none⟩) [z] L v (fun k => k = w.heap.size) _ (h1.q hq) (SeesP.newAt w [.int .i64 z] 3) (fun k hk => ⟨by subst hk; rw [alloc_size]; omega, fun hO => by have := h1.lt k hO; omega⟩) (by simp; omega) (by simp)).mono ?_
  rintro e' w' ⟨v', rfl, h4⟩
  refine ⟨rfl, OutN.of_st (s := (e, L)) (h1.q hq) (h2.step hq) h4 ?_⟩
  have := numStep_len (e, L) z
  simp only [List.foldl_cons, List.foldl_nil] at this ⊢
  omega
theorem numIn (h : Hid (OutN w0 w g (0, L) c)) (z : Int) (hc : c ≤ 100000) (h0 : 0 ≤ z) (h1 : z < 4611686018427387904) :
    Calls Try.prog 33 #[.pointer (some ⟨g, 0, none⟩), .slice (some ⟨w.heap.size, 0, none⟩) 1 1] (w.alloc (.cells #[.int .i64 z] 3)) (OutR w0 g (0, L ++ numL z.toNat) (c + 1)) := by
  have := num1 h z hc
  unfold numStep at this
  rw [if_pos rfl, if_pos ⟨h0, h1⟩] at this
  exact this

theorem texts1 (h : Hid (OutN w0 w g s c)) (zs : List ByteArray) (A : Option Addr) (cp : Nat) (hs : SeesP w (fun k => k < w0.heap.size) A (zs.map .string)) (hz : zs.length ≤ 1000) (hc : c ≤ 100000) (hm : ∀ t ∈ zs, t.size ≤ 9223372036854775807) :
    Calls Try.prog 50 #[.pointer (some ⟨g, 0, none⟩), .slice A zs.length cp] w (OutR w0 g (zs.foldl textStep s) (c + zs.length)) := by
  obtain ⟨v, h1, h2, h3⟩ := h.out
  obtain ⟨e, L⟩ := s
  simp only at h1 h3
  refine (texts_ok w0.heap.size g e cp A zs L v _ w h1 hs (fun k hk => ⟨Nat.lt_of_lt_of_le hk h2.size, fun hO => by have := h1.ge k hO; omega⟩) (by omega) (by omega) hm).mono ?_
  rintro e' w' ⟨v', rfl, h4⟩
  refine ⟨rfl, OutN.of_st (s := (e, L)) h1 h2 h4 ?_⟩
  have := textSteps_len zs (e, L)
  simp only at this
  omega
theorem text1 (h : Hid (OutN w0 w g s c)) (t : ByteArray) (hc : c ≤ 100000) (ht : t.size ≤ 9223372036854775807) :
    Calls Try.prog 50 #[.pointer (some ⟨g, 0, none⟩), .slice (some ⟨w.heap.size, 0, none⟩) 1 1] (w.alloc (.cells #[.string t] 9)) (OutR w0 g (textStep s t) (c + 1)) := by
  obtain ⟨v, h1, h2, h3⟩ := h.out
  obtain ⟨e, L⟩ := s
  simp only at h1 h3
  have hq : Q w (w.alloc (.cells #[.string t] 9)) := (Q.refl w).alloc _
  refine (texts_ok w0.heap.size g e 1 (some ⟨w.heap.size, 0, none⟩) [t] L v (fun k => k = w.heap.size) _ (h1.q hq) (SeesP.newAt w [.string t] 9) (fun k hk => ⟨by subst hk; rw [alloc_size]; omega, fun hO => by have := h1.lt k hO; omega⟩) (by simp; omega) (by simp) (by simpa using ht)).mono ?_
  rintro e' w' ⟨v', rfl, h4⟩
  refine ⟨rfl, OutN.of_st (s := (e, L)) (h1.q hq) (h2.step hq) h4 ?_⟩
  have := textStep_len (e, L) t
  simp only [List.foldl_cons, List.foldl_nil] at this ⊢
  omega
theorem textIn (h : Hid (OutN w0 w g (0, L) c)) (t : ByteArray) (hc : c ≤ 100000) (ht : t.size ≤ 131072) :
    Calls Try.prog 50 #[.pointer (some ⟨g, 0, none⟩), .slice (some ⟨w.heap.size, 0, none⟩) 1 1] (w.alloc (.cells #[.string t] 9)) (OutR w0 g (0, L ++ (numL t.size ++ bytesOf t)) (c + 1)) := by
  have := text1 h t hc (by omega)
  unfold textStep at this
  rw [if_pos rfl, if_pos ht] at this
  exact this

/-- The bytes that are handed back. -/
def outB (s : Nat × List Nat) : List Nat := if s.1 = 0 then s.2 else []
/-- All of its bytes. -/
theorem bytes1 (h : Hid (OutN w0 w g s c)) (hc : c ≤ 100000) : Calls Try.prog 35 #[.pointer (some ⟨g, 0, none⟩)] w fun e w' => ∃ A cp n, e = .returned (.tuple #[.slice A n cp, .int .i64 (s.1 : Int)]) ∧ Hid (n = (outB s).length) ∧ Hid (GotB w0 w' (outB s) (.slice A n cp)) := by
  obtain ⟨v, h1, h2, h3⟩ := h.out
  refine (bytes_ok _ _ _ _ _ w h1 (by omega)).mono ?_
  rintro e w' ⟨v', rfl, h4, h5⟩
  obtain ⟨A, cp, rfl⟩ := own_form h4
  refine ⟨A, cp, _, rfl, rfl, own_mono h4 h2.size, h2.step h5, ?_⟩
  unfold outB
  split
  · exact h1.byte
  · simp
theorem bytesIn (h : Hid (OutN w0 w g (0, L) c)) (hc : c ≤ 100000) : Calls Try.prog 35 #[.pointer (some ⟨g, 0, none⟩)] w fun e w' => ∃ A cp, e = .returned (.tuple #[.slice A L.length cp, .int .i64 0]) ∧ Hid (GotB w0 w' L (.slice A L.length cp)) :=
  (bytes1 h hc).mono fun e w' ⟨A, cp, n, h1, h2, h3⟩ => by
    have h2 : n = L.length := h2.out
    subst h2
    exact ⟨A, cp, h1, h3⟩
end

theorem Q.trans' {w w1 w2 : World} (h : Q w w1) (k : Q w1 w2) : Q w w2 := h.step k
/-- The same, as the laws call it. -/
theorem beginZ (w : World) (k : Nat) (z : Int) (hz : z = (k : Int)) (hk : k ≤ 255) : Calls Try.prog 32 #[.int .u8 z] w fun e w' => ∃ g, OutR w g (0, [72, 89, k]) 1 e w' := by
  subst hz; exact begin1 w k hk
theorem GotB.q {w0 w w' : World} {L : List Nat} {v : Value} (h : GotB w0 w L v) (hq : Q w w') : GotB w0 w' L v := ⟨own_only h.1 (Only.of_q (S := fun _ => False) hq) (fun _ _ => id), h.2.1.step hq, h.2.2⟩
theorem GotB.string {w0 w : World} {L : List Nat} {A : Option Addr} {n cp : Nat} (h : GotB w0 w L (.slice A n cp)) (hn : L.length = n) : (convert 40 9 (.slice A n cp)).run Try.prog w = .ok (.string (strB L)) w := by
  have h1 := h.1
  rw [hn] at h1
  exact run_convert_sees (P := Try.prog) w 40 9 5 Try.underlying40 Try.underlying5 Try.underlying9 _ A n cp L hn (sees_own h1)
end
end Go.Proofs.Ytffenfhbiapefaa
