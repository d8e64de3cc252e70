/- The walks through glyph's In: Raw, Text, Flag, Err, End. -/
import Derived.Test.YtffenfhbiapefaaGlyF
namespace Go.Proofs.Ytffenfhbiapefaa
set_option linter.unusedVariables false
set_option linter.unusedSimpArgs false
open Go.RowKit

theorem Only.cell {S : Nat → Prop} {w w' : World} (h : Only S w w') {p : Addr} (hp : p.block < w.heap.size) (hS : ¬ S p.block) : w'.cell? p = w.cell? p := World.cell?_of_block (w := w) (h.block p.block hp hS)
theorem num_in (base : Nat → Prop) (g e : Nat) (L : List Nat) (w : World) (limit : Int) (h : InHas w base g e L) (hl : -9223372036854775808 ≤ limit ∧ limit ≤ 9223372036854775807) :
    Calls Try.prog 44 #[.pointer (some ⟨g, 0, none⟩), .int .i64 limit] w (InDone w base g (.int .i64 ((numRd limit (e, L)).1 : Int)) (numRd limit (e, L)).2) := by
  by_cases he : e = 0
  · subst he; exact num_on base g L w limit h hl
  · have h1 : numRd limit (e, L) = (0, (e, L)) := if_neg he
    rw [h1]; exact num_off base g e L w limit h he

/-- Reading bytes as they are. -/
def rawRd (n : Int) (s : Nat × List Nat) : List Nat × (Nat × List Nat) :=
  if s.1 = 0 then (if n < 0 then ([], (1, s.2)) else if (s.2.length : Int) < n then ([], (3, s.2)) else (s.2.take n.toNat, (0, s.2.drop n.toNat))) else ([], s)
/-- What a call leaves that hands bytes back. -/
def InRow (w : World) (base : Nat → Prop) (g : Nat) (r : List Nat × (Nat × List Nat)) (e_ : Ending) (w' : World) : Prop :=
  ∃ B m c, e_ = .returned (.slice B m c) ∧ r.1.length = m ∧ w'.ownsRow w.heap.size 5 1 (.slice B m c) m (r.1.map B8) ∧ InHas w' base g r.2.1 r.2.2 ∧ Only (fun k => k = g) w w'
/-- The clone of k bytes. -/
theorem clone_k (A : Option Addr) (c k : Nat) (ok : Nat → Prop) (L : List Nat) (w : World) (hk : L.length = k) (hs : SeesP w ok A (L.map B8)) (hl : k ≤ 140737488355328) :
    Calls Try.prog 52 #[.slice A k c] w fun e w' => ∃ B bc, e = .returned (.slice B k bc) ∧ w'.ownsRow w.heap.size 5 1 (.slice B k bc) k (L.map B8) ∧ Q w w' := by
  subst hk
  refine (clone_ok A c ok L w hs hl).mono ?_
  rintro e w' ⟨v', rfl, h1, h2⟩
  obtain ⟨B, bc, rfl⟩ := own_form h1
  exact ⟨B, bc, rfl, h1, h2⟩

set_option maxHeartbeats 4000000 in
set_option maxRecDepth 100000 in
theorem raw_in (base : Nat → Prop) (g e : Nat) (L : List Nat) (w : World) (n : Int) (h : InHas w base g e L) :
    Calls Try.prog 64 #[.pointer (some ⟨g, 0, none⟩), .int .i64 n] w (InRow w base g (rawRd n (e, L))) := by
  obtain ⟨i8, hi8, hz80, hz81, hz82⟩ := info_parts info8
  have c1 := h.e_
  obtain ⟨A, c, hr, hs, hlc, hAc⟩ := h.row
  have hlen := h.len
  have c0 : w.cell? ⟨g, 0, none⟩ = some (.slice A L.length c) := hr.cell (i := 0) (by omega)
  have hglt := hr.lt
  have HH := Lib.hid h
  have HR := Lib.hid hr
  have HS := Lib.hid hs
  have HA := Lib.hid hAc
  obtain ⟨r, hr0⟩ : ∃ r, r = rawRd n (e, L) := ⟨_, rfl⟩
  rw [← hr0]
  unfold rawRd at hr0
  obtain ⟨m, hm⟩ : ∃ m, m = L.length := ⟨_, rfl⟩
  have HM := Lib.hid hm
  rw [← hm] at c0 hlc hlen
  simp only [← hm] at hr0
  clear hr hs hAc hm
  by_cases he : e = 0
  · subst he
    rw [if_pos rfl] at hr0
    have f1 := Lib.hid (show Calls Try.prog 55 #[.pointer (some ⟨g, 0, none⟩), .int .i64 1] w (InDone w base g (.tuple #[]) (1, L)) from ifail_ok base g 0 1 L w h)
    have f3 := Lib.hid (show Calls Try.prog 55 #[.pointer (some ⟨g, 0, none⟩), .int .i64 3] w (InDone w base g (.tuple #[]) (3, L)) from ifail_ok base g 0 3 L w h)
    clear h
    by_cases hn : n < 0
    · have HRD := Lib.hid (hr0.trans (if_pos hn))
      clear hr0
      go_enter Try.func64, Try.ntmps64
      go_wp2_with (go_at_call 55; go_loud ((with_reducible refine f1.out.mono ?_); rintro e w1 ⟨rfl, h1⟩; have H1 := Lib.hid h1; clear h1))
      go_ret
      rw [HRD.out]
      exact ⟨_, _, _, rfl, rfl, World.ownsRow_nil _ _ _ _, H1.out⟩
    · rw [if_neg hn] at hr0
      by_cases hnm : (m : Int) < n
      · have HRD := Lib.hid (hr0.trans (if_pos hnm))
        clear hr0
        go_enter Try.func64, Try.ntmps64
        go_wp2_with (go_at_call 55; go_loud ((with_reducible refine f3.out.mono ?_); rintro e w1 ⟨rfl, h1⟩; have H1 := Lib.hid h1; clear h1))
        go_ret
        rw [HRD.out]
        exact ⟨_, _, _, rfl, rfl, World.ownsRow_nil _ _ _ _, H1.out⟩
      · obtain ⟨k, rfl⟩ := Int.eq_ofNat_of_zero_le (show 0 ≤ n by omega)
        have HRD := Lib.hid (hr0.trans (if_neg hnm))
        clear hr0
        have hkm : k ≤ m := by omega
        have hkc : k ≤ c := by omega
        have HT : Hid ((L.take k).length = k) := by show _ = _; rw [List.length_take, ← HM.out]; omega
        have hcl := Lib.hid (clone_k A c k _ (L.take k) w HT.out (by rw [List.map_take]; exact HS.out.take k) (by omega))
        go_enter Try.func64, Try.ntmps64
        go_wp2_with (first
          | (refine gate 36 rfl ?_; go_loud (refine wpList_slice_hi rfl 40 (.tmp 34) (.tmp 35) rfl 5 Try.underlying40 i8 hi8 A m c rfl .i64 k rfl hkc ?_))
          | (go_at_call 52; go_loud ((with_reducible refine hcl.out.mono ?_); rintro e w1 ⟨B, bc, rfl, h1, h2⟩; have cc := (Below.cell (p := ⟨g, 0, none⟩) h2 hglt).trans c0; have H1 := Lib.hid (And.intro h1 h2); clear h1 h2; have HH1 := Lib.hid (HH.out.q H1.out.2); have z0 := HH1.out.fr 0))
          | (refine gate 44 rfl ?_; go_loud (refine wpList_slice_lo rfl 40 (.tmp 42) (.tmp 43) rfl 5 Try.underlying40 i8 hi8 1 hz81 A m c rfl .i64 k rfl hkm ?_)))
        go_ret
        rw [HRD.out]
        have hq := H1.out.2
        have hs1 := HS.out.belowP (w' := w1) (fun b hb => hb.2.1) hq
        refine ⟨_, _, _, rfl, HT.out, own_only H1.out.1 (only_set _ g 0 _) (fun k hk hkg => ?_), InHas.put (L := L) (A := A) (c := c) (row_q hq HR.out) HH.out.new _ _ _ (by rw [List.length_drop, HM.out]; rfl) ?_ (by rw [List.length_drop, ← HM.out]; simp; omega) (fun h => ?_) (fun y hy => HH.out.byte y (List.mem_of_mem_drop hy)) (by rw [List.length_drop, ← HM.out]; omega), (Only.of_q hq).trans (only_set _ _ _ _)⟩
        · have := own_block H1.out.1 k hk; omega
        · have h1 := hs1.cut (c := c) (l := k) (s := 1) (by rw [List.length_map, ← HM.out]; omega)
          rw [Nat.mul_one, ← List.map_drop] at h1
          exact h1.more (fun b ⟨hb1, hb2, hb3⟩ => ⟨hb1, Nat.lt_of_lt_of_le hb2 hq.size, hb3⟩)
        · have := HA.out (cutA_none_iff.1 h); omega
  · rw [if_neg he] at hr0
    have HRD := Lib.hid hr0
    have d : ((e : Int) == 0) = false := beq_eq_false_iff_ne.2 (by omega)
    have d' : ((e : Int) != 0) = true := bne_iff_ne.2 (by omega)
    clear h he hr0
    go_enter Try.func64, Try.ntmps64
    go_wp2
    go_ret
    rw [HRD.out]
    exact ⟨_, _, _, rfl, rfl, World.ownsRow_nil _ _ _ _, HH.out, Only.refl _ _⟩

/-- Reading a text. -/
def textRd (limit : Int) (s : Nat × List Nat) : List Nat × (Nat × List Nat) := rawRd ((numRd (min limit 131072) s).1 : Int) (numRd (min limit 131072) s).2
/-- What a call leaves that hands a string back. -/
def InText (w : World) (base : Nat → Prop) (g : Nat) (r : List Nat × (Nat × List Nat)) (e_ : Ending) (w' : World) : Prop := InDone w base g (.string (strB r.1)) r.2 e_ w'
set_option maxHeartbeats 4000000 in
set_option maxRecDepth 100000 in
theorem text_in (base : Nat → Prop) (g e : Nat) (L : List Nat) (w : World) (limit : Int) (h : InHas w base g e L) (hl : -9223372036854775808 ≤ limit ∧ limit ≤ 9223372036854775807) :
    Calls Try.prog 56 #[.pointer (some ⟨g, 0, none⟩), .int .i64 limit] w (InText w base g (textRd limit (e, L))) := by
  obtain ⟨lim, hlim⟩ : ∃ lim, min limit 131072 = lim := ⟨_, rfl⟩
  have hn := Lib.hid (num_in base g e L w lim h (by omega))
  unfold textRd
  rw [hlim]
  obtain ⟨⟨v, s⟩, hs⟩ : ∃ r, numRd lim (e, L) = r := ⟨_, rfl⟩
  rw [hs] at hn ⊢
  obtain ⟨e1, M⟩ := s
  clear hs h
  obtain ⟨⟨b, t⟩, hr⟩ : ∃ r, rawRd (v : Int) (e1, M) = r := ⟨_, rfl⟩
  have HRW := Lib.hid hr
  simp only
  rw [hr]
  clear hr
  go_enter Try.func56, Try.ntmps56
  go_wp2_with (first
    | (go_at_call 44; go_loud ((with_reducible refine hn.out.mono ?_); rintro e w1 ⟨rfl, h1⟩; have H1 := Lib.hid h1; clear h1))
    | (go_at_call 64; go_loud ((with_reducible refine (raw_in base g _ _ w1 _ H1.out.1).mono ?_); rintro e w2 ⟨B, m, c, rfl, h1, h2, h3, h4⟩; rw [HRW.out] at h1 h2 h3; have hk := run_convert_sees (P := Try.prog) w2 40 9 5 Try.underlying40 Try.underlying5 Try.underlying9 _ B m c b h1 (sees_own h2); have H2 := Lib.hid (And.intro h3 h4); clear h1 h2 h3 h4)))
  go_ret
  exact ⟨rfl, H2.out.1, H1.out.2.trans H2.out.2⟩

/-- Reading a flag. -/
def flagRd (s : Nat × List Nat) : Bool × (Nat × List Nat) :=
  match (rawRd 1 s).1 with
  | [] => (false, (rawRd 1 s).2)
  | x :: _ => (x == 1, if 1 < x then (err1 (rawRd 1 s).2.1 2, (rawRd 1 s).2.2) else (rawRd 1 s).2)
set_option maxHeartbeats 1000000 in
theorem err_in (base : Nat → Prop) (g e : Nat) (L : List Nat) (w : World) (h : InHas w base g e L) :
    Calls Try.prog 46 #[.pointer (some ⟨g, 0, none⟩)] w fun e_ w' => e_ = .returned (.int .i64 (e : Int)) ∧ w = w' := by
  have c1 := h.e_
  clear h
  go_enter Try.func46, Try.ntmps46
  go_wp2
  go_ret
  exact ⟨rfl, rfl⟩
/-- Is it all? -/
def endRd (s : Nat × List Nat) : Nat × List Nat := if s.2 = [] then s else (err1 s.1 2, s.2)
set_option maxHeartbeats 4000000 in
theorem end_in (base : Nat → Prop) (g e : Nat) (L : List Nat) (w : World) (h : InHas w base g e L) :
    Calls Try.prog 47 #[.pointer (some ⟨g, 0, none⟩)] w (InDone w base g (.int .i64 ((endRd (e, L)).1 : Int)) (endRd (e, L))) := by
  obtain ⟨A, c, hr, hs, hlc, hAc⟩ := h.row
  have c0 : w.cell? ⟨g, 0, none⟩ = some (.slice A L.length c) := hr.cell (i := 0) (by omega)
  have HH := Lib.hid h
  unfold endRd
  clear hr hs hAc
  by_cases hL : L = []
  · subst hL
    rw [if_pos rfl]
    have he := Lib.hid (err_in base g e [] w h)
    clear h
    go_enter Try.func47, Try.ntmps47
    go_wp2_with (go_at_call 46; go_loud ((with_reducible refine he.out.mono ?_); rintro e w1 ⟨rfl, rfl⟩))
    go_ret
    exact ⟨rfl, HH.out, Only.refl _ _⟩
  · rw [if_neg hL]
    have hpos : 0 < L.length := List.length_pos_iff.2 hL
    have hf := Lib.hid (show Calls Try.prog 55 #[.pointer (some ⟨g, 0, none⟩), .int .i64 2] w (InDone w base g (.tuple #[]) (err1 e 2, L)) from ifail_ok base g e 2 L w h)
    clear h hL
    generalize L.length = m at *
    go_enter Try.func47, Try.ntmps47
    go_wp2_with (first
      | (go_at_call 55; go_loud ((with_reducible refine hf.out.mono ?_); rintro e w1 ⟨rfl, h1⟩; have H1 := Lib.hid h1; clear h1))
      | (go_at_call 46; go_loud ((with_reducible refine (err_in base g _ _ _ H1.out.1).mono ?_); rintro e w1 ⟨rfl, rfl⟩)))
    go_ret
    exact ⟨rfl, H1.out⟩
end Go.Proofs.Ytffenfhbiapefaa
