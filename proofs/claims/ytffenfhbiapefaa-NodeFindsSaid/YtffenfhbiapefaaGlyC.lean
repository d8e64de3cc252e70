/- The walks through glyph's Out: Raw, Flag, Bytes, Begin. -/
import Derived.Test.YtffenfhbiapefaaGlyB
import Derived.Test.YtffenfhbiapefaaShelf
import Derived.Deep.QuietTactic
import Derived.BigQuiet
namespace Go.Proofs.Ytffenfhbiapefaa
set_option linter.unusedVariables false
set_option linter.unusedSimpArgs false
open Go.RowKit

/-- A part more, as it is. -/
def rawStep (s : Nat × List Nat) (l : List Nat) : Nat × List Nat := if s.1 = 0 then (0, s.2 ++ l) else s
theorem rawSteps_len (zs : List (Value × List Nat)) : ∀ s, ((zs.map (·.2)).foldl rawStep s).2.length ≤ s.2.length + (zs.flatMap (·.2)).length := by
  induction zs with
  | nil => intro s; simp
  | cons z zs ih =>
    intro s
    have h1 := ih (rawStep s z.2)
    have h2 : (rawStep s z.2).2.length ≤ s.2.length + z.2.length := by unfold rawStep; split <;> simp
    simp only [List.map_cons, List.foldl_cons, List.flatMap_cons, List.length_append]; omega
/-- The parts that come in. -/
def PartsIn (w : World) (ok : Nat → Prop) (parts : List (Value × List Nat)) : Prop :=
  ∀ z ∈ parts, ∃ B c, z.1 = .slice B z.2.length c ∧ SeesP w ok B (z.2.map B8) ∧ (∀ x ∈ z.2, x ≤ 255) ∧ (B = none → c = 0)

set_option maxHeartbeats 16000000 in
set_option maxRecDepth 100000 in
theorem raws_ok (base g e c : Nat) (A : Option Addr) (zs : List (Value × List Nat)) (L : List Nat) (v : Value) (ok : Nat → Prop) (w : World) (h : OutHas w base g e L v) (hs : SeesP w ok A (zs.map (·.1))) (hps : PartsIn w ok zs) (hok : ∀ k, ok k → k < w.heap.size ∧ ¬ OutS g v k) (hL : L.length + (zs.flatMap (·.2)).length ≤ 50000000000) (hz : zs.length ≤ 100000) :
    Calls Try.prog 63 #[.pointer (some ⟨g, 0, none⟩), .slice A zs.length c] w (OutBack w base g ((zs.map (·.2)).foldl rawStep (e, L)) v) := by
  obtain ⟨i0, hi, hz0, hz1, hz2⟩ := info_parts info8
  have HR := Lib.hid (OutSt.refl h)
  have HS := Lib.hid hs
  have HPS := Lib.hid hps
  have HOK := Lib.hid hok
  have hbase : base ≤ w.heap.size := by have := h.row.lt; have := h.new; omega
  obtain ⟨N, hN⟩ : ∃ N, N = zs.length := ⟨_, rfl⟩
  have HN := Lib.hid hN
  have HLL := Lib.hid hL
  rw [← hN] at hz ⊢
  have H0 : Hid (∃ v', OutSt w v w base g (((zs.take 0).map (·.2)).foldl rawStep (e, L)).1 (((zs.take 0).map (·.2)).foldl rawStep (e, L)).2 v') := ⟨v, HR.out⟩
  clear h hs hok hN hps hL
  go_enter Try.func63, Try.ntmps63
  go_wp2_with fail
  go_loopw [9] (fun i wr => ∃ k : Nat, k ≤ N ∧ i = .int .i64 k ∧ Hid (∃ v', OutSt w v wr base g (((zs.take k).map (·.2)).foldl rawStep (e, L)).1 (((zs.take k).map (·.2)).foldl rawStep (e, L)).2 v')) (fun i _ => N - (intOf i).toNat)
  case atStart => exact ⟨0, by omega, rfl, H0.out⟩
  case round =>
    obtain ⟨k, hk, rfl, HW⟩ := hrel
    obtain ⟨v', hst⟩ := HW.out
    have HST := Lib.hid hst
    clear hst
    by_cases hlt : k < N
    · have hkl : k < zs.length := by rw [← HN.out]; exact hlt
      obtain ⟨B, c', hb1, hb2, hb3, hb4⟩ := HPS.out zs[k] (List.getElem_mem hkl)
      obtain ⟨bb, oo, rfl, hbb, hc⟩ := (HST.out.only.sees HS.out HOK.out).at_ (k := k) (u := zs[k].1) (by simp [hkl])
      rw [hb1] at hc
      have HNX : Hid (((zs.take (k + 1)).map (·.2)).foldl rawStep (e, L) = rawStep (((zs.take k).map (·.2)).foldl rawStep (e, L)) zs[k].2) := by show _ = _; rw [List.take_succ_eq_append_getElem hkl, List.map_append, List.foldl_append]; rfl
      have hlen := rawSteps_len (zs.take k) (e, L)
      have hlen2 : ((zs.take k).flatMap (·.2)).length + zs[k].2.length ≤ (zs.flatMap (·.2)).length := by
        conv => rhs; rw [← List.take_append_drop (k + 1) zs, List.flatMap_append, List.length_append, List.take_succ_eq_append_getElem hkl, List.flatMap_append, List.length_append]
        simp
      have hLL := HLL.out
      have HB2 := Lib.hid (HST.out.only.sees hb2 HOK.out)
      have HB3 := Lib.hid hb3
      have HB4 := Lib.hid hb4
      generalize zs[k].2 = z at *
      have c1 := HST.out.has.e_
      have c0 := HST.out.has.b
      have z0 := HST.out.has.row.frozen 0
      have hgl := HST.out.has.row.lt
      obtain ⟨st, hst⟩ : ∃ st, st = ((zs.take k).map (·.2)).foldl rawStep (e, L) := ⟨_, rfl⟩
      rw [← hst] at HST c1 HNX hlen
      have hl2 : st.2.length + z.length ≤ 50000000000 := by simp only at hlen; omega
      have hbs : base ≤ wr.heap.size := Nat.le_trans hbase HST.out.only.size
      obtain ⟨m, hm⟩ : ∃ m, m = z.length := ⟨_, rfl⟩
      have HM := Lib.hid hm
      rw [← hm] at hc hl2
      clear hst hlen HW hlen2 hLL hb1 hb2 hb3 hb4 hbb hm
      obtain ⟨e0, L0⟩ := st
      simp only at c1 hl2
      by_cases he : e0 = 0
      · subst he
        have HNS : Hid (rawStep (0, L0) z = (0, L0 ++ z)) := rfl
        go_wp2_with (at_builtin; go_loud (refine wpList_append_row rfl (.tmp 26) (.tmp 27) 40 rfl base 5 i0 (.int .u8 0) 1 Try.underlying40 hi hz0 hz1 hz2 rfl v' L0.length _ rfl HST.out.has.own ok B m c' (z.map B8) rfl HB4.out (by rw [List.length_map, HM.out]) HB2.out (B8_one _) (by unfold maxLen; omega) (by omega) hbs ?_; intro v2 w2 hown2 hgr2; obtain ⟨B2, bc2, rfl⟩ := own_form hown2; have cc := (hgr2.cell (p := ⟨g, 0, none⟩) hgl HST.out.has.far).trans c0; have zz := (HST.out.has.row.of_block (hgr2.block g hgl HST.out.has.far)).frozen 0; have H2 := Lib.hid (HST.out.trans (HST.out.has.put (M := z) HB3.out (by rw [← HM.out]; exact hown2) hgr2)); clear hown2 hgr2))
        go_roundw
        case rel => exact ⟨k + 1, by omega, by go_num, _, by rw [HNX.out, HNS.out]; exact H2.out⟩
        case measure => simp [intOf]; omega
      · have hd : ((e0 : Int) == 0) = false := beq_eq_false_iff_ne.2 (by omega)
        have HNS : Hid (rawStep (e0, L0) z = (e0, L0)) := by show _ = _; exact if_neg he
        clear he
        go_wp2_with fail
        go_roundw
        case rel => exact ⟨k + 1, by omega, by go_num, _, by rw [HNX.out, HNS.out]; exact HST.out⟩
        case measure => simp [intOf]; omega
    · have HE : Hid (OutSt w v wr base g ((zs.map (·.2)).foldl rawStep (e, L)).1 ((zs.map (·.2)).foldl rawStep (e, L)).2 v') := by
        have h1 := HST.out
        rw [List.take_of_length_le (by rw [← HN.out]; omega)] at h1
        exact h1
      clear HST HW
      go_wp2_with fail
      go_ret
      exact ⟨v', rfl, HE.out⟩

/-- A clone. -/
def Cloned (w : World) (L : List Nat) (e : Ending) (w' : World) : Prop := ∃ v', e = .returned v' ∧ w'.ownsRow w.heap.size 5 1 v' L.length (L.map B8) ∧ Q w w'
theorem clone_ok (A : Option Addr) (c : Nat) (ok : Nat → Prop) (L : List Nat) (w : World) (hs : SeesP w ok A (L.map B8)) (hl : L.length ≤ 140737488355328) :
    Calls Try.prog 52 #[.slice A L.length c] w (Cloned w L) := by
  rcases A with _ | a
  · have hL : L = [] := by
      rcases Classical.em (L = []) with h | h
      · exact h
      · obtain ⟨b, o, e, _⟩ := hs (by simpa using h); cases e
    subst hL
    exact (Try.bytes_Clone_nil 0 c w).mono fun e w' ⟨h1, h2⟩ => ⟨_, h1, by subst h2; exact World.ownsRow_nil _ _ _ _, by subst h2; exact Q.refl _⟩
  · refine (Try.bytes_Clone_at a L.length c (L.map (fun x : Nat => (x : Int))) w (by simp) hl (fun i hi => ?_)).mono fun e w' ⟨v', h1, h2, h3, h4⟩ => ⟨v', h1, ?_, h4⟩
    · obtain ⟨b, o, e, _, hc⟩ := hs.at_ (k := i) (u := B8 L[i]) (by simp [hi])
      injection e with e
      subst e
      have : (⟨b, o, none⟩ : Addr).add i = ⟨b, o + i, none⟩ := by
        unfold Addr.add
        split
        · rename_i h; subst h; rfl
        · rfl
      rw [this, hc]; simp [B8, hi]
    · rw [List.map_map] at h2; exact h2

set_option maxHeartbeats 1000000 in
theorem bytes_nil (w : World) : Calls Try.prog 35 #[.pointer none] w fun e w' => e = .returned (.tuple #[.slice none 0 0, .int .i64 1]) ∧ w = w' := by
  go_enter Try.func35, Try.ntmps35
  go_wp2
  go_ret2
  exact ⟨rfl, rfl⟩
/-- The bytes that Bytes hands back. -/
def GotBytes (w : World) (e : Nat) (L : List Nat) (e_ : Ending) (w' : World) : Prop :=
  ∃ v', e_ = .returned (.tuple #[v', .int .i64 (e : Int)]) ∧ w'.ownsRow w.heap.size 5 1 v' (if e = 0 then L else []).length ((if e = 0 then L else []).map B8) ∧ Q w w'
set_option maxHeartbeats 4000000 in
theorem bytes_ok (base g e : Nat) (L : List Nat) (v : Value) (w : World) (h : OutHas w base g e L v) (hl : L.length ≤ 140737488355328) :
    Calls Try.prog 35 #[.pointer (some ⟨g, 0, none⟩)] w (GotBytes w e L) := by
  have c0 := h.b
  have c1 := h.e_
  unfold GotBytes
  by_cases he : e = 0
  · subst he
    rw [if_pos rfl]
    obtain ⟨A, c, rfl⟩ := own_form h.own
    have hcl := Lib.hid (clone_ok A c _ L w (sees_own h.own) hl)
    clear h
    go_enter Try.func35, Try.ntmps35
    go_wp2_with (go_at_call 52; go_loud ((with_reducible refine hcl.out.mono ?_); rintro e w1 ⟨v1, rfl, h1, h2⟩; obtain ⟨B, bc, rfl⟩ := own_form h1; have H1 := Lib.hid h1; clear h1))
    go_ret2
    exact ⟨_, rfl, H1.out, h2⟩
  · rw [if_neg he]
    have hd : ((e : Int) == 0) = false := beq_eq_false_iff_ne.2 (by omega)
    have hd' : ((e : Int) != 0) = true := bne_iff_ne.2 (by omega)
    clear he h
    go_enter Try.func35, Try.ntmps35
    go_wp2
    go_quiet (fail)
    go_wp2
    go_ret2
    exact ⟨_, rfl, World.ownsRow_nil _ _ _ _, (Q.refl w).drewN _⟩
end Go.Proofs.Ytffenfhbiapefaa
