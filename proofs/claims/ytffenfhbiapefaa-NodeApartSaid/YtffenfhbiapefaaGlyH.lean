/- The walk through glyph's Open. -/
import Derived.Test.YtffenfhbiapefaaGlyG
import Derived.Lib.SlicesS
namespace Go.Proofs.Ytffenfhbiapefaa
set_option linter.unusedVariables false
set_option linter.unusedSimpArgs false
open Go.RowKit

theorem strB_beq {L M : List Nat} (hL : ∀ x ∈ L, x ≤ 255) (hM : ∀ x ∈ M, x ≤ 255) : ((strB L).toList == (strB M).toList) = decide (L = M) := by
  rw [Bool.eq_iff_iff, Lib.bytes_beq_iff, decide_eq_true_iff]
  exact ⟨fun h => strB_inj hL hM h, fun h => by rw [h]⟩
/-- bytes.Equal of two rows that read. -/
theorem equal_sees (ok ok' : Nat → Prop) (A B : Option Addr) (n c m d : Nat) (L M : List Nat) (w : World) (b : Bool) (hn : L.length = n) (hm : M.length = m) (hL : SeesP w ok A (L.map B8)) (hM : SeesP w ok' B (M.map B8)) (h1 : ∀ x ∈ L, x ≤ 255) (h2 : ∀ x ∈ M, x ≤ 255) (hb : decide (L = M) = b) :
    Calls Try.prog 54 #[.slice A n c, .slice B m d] w fun e w' => e = .returned (.bool b) ∧ w = w' := by
  refine (Try.bytes_Equal_strs _ _ (strB L) (strB M) w (run_convert_sees w 40 9 5 Try.underlying40 Try.underlying5 Try.underlying9 ok A n c L hn hL) (run_convert_sees w 40 9 5 Try.underlying40 Try.underlying5 Try.underlying9 ok' B m d M hm hM)).mono ?_
  rintro e w' ⟨rfl, rfl⟩
  exact ⟨by rw [strB_beq h1 h2, hb], rfl⟩

/-- What Open makes of bytes. -/
def openRd (k : Nat) (L : List Nat) : Nat × List Nat := if L.take 3 = [72, 89, k].take (min L.length 3) then (if L.length < 3 then (3, []) else (0, L.drop 3)) else (2, [])
/-- A new In. -/
def InNew (w : World) (s : Nat × List Nat) (e_ : Ending) (w' : World) : Prop := ∃ g, e_ = .returned (.pointer (some ⟨g, 0, none⟩)) ∧ InHas w' (fun k => w.heap.size ≤ k) g s.1 s.2 ∧ Q w w'
theorem InHas.fresh (w : World) (A : Option Addr) (n c e : Nat) (L : List Nat) (base : Nat) (hn : L.length = n) (hs : SeesP w (fun k => base ≤ k ∧ k < w.heap.size) A (L.map B8)) (hb : base ≤ w.heap.size) (hc : n ≤ c) (hA : A = none → c = 0) (hby : ∀ x ∈ L, x ≤ 255) (hlen : n ≤ 140737488355328) :
    InHas (w.alloc (.cells #[.slice A n c, .int .i64 (e : Int)] 89)) (fun k => base ≤ k) w.heap.size e L := by
  subst hn
  refine ⟨⟨A, c, World.rowIs_alloc w #[.slice A L.length c, .int .i64 (e : Int)] 89 _ (fun i hi => ?_), (hs.alloc (fun b hb => hb.2) _).more (fun b ⟨h1, h2⟩ => ⟨h1, by rw [alloc_size]; omega, by omega⟩), hc, hA⟩, hb, hby, hlen⟩
  have hi : i < 2 := hi
  match i, hi with
  | 0, _ => rfl
  | 1, _ => rfl
theorem InHas.lower {w : World} {b b' : Nat → Prop} {g e : Nat} {L : List Nat} (h : InHas w b g e L) (hb : ∀ k, b k → b' k) : InHas w b' g e L := by
  obtain ⟨A, c, h1, h2, h3, h4⟩ := h.row
  exact ⟨⟨A, c, h1, h2.more (fun k ⟨k1, k2, k3⟩ => ⟨hb k k1, k2, k3⟩), h3, h4⟩, hb _ h.new, h.byte, h.len⟩

set_option maxHeartbeats 8000000 in
set_option maxRecDepth 100000 in
theorem open_in (k : Nat) (hk : k ≤ 255) (A : Option Addr) (c m : Nat) (L : List Nat) (ok : Nat → Prop) (w : World) (hm : L.length = m) (hs : SeesP w ok A (L.map B8)) (hok : ∀ b, ok b → b < w.heap.size) (hby : ∀ x ∈ L, x ≤ 255) (hlen : m ≤ 140737488355328) (hmc : m ≤ c) (hc : c ≤ 9223372036854775807) (hAc : A = none → c = 0) :
    Calls Try.prog 43 #[.int .u8 (k : Int), .slice A m c] w (InNew w (openRd k L)) := by
  obtain ⟨i0, hi, hz0, hz1, hz2⟩ := info_parts info8
  obtain ⟨n, hn⟩ : ∃ n, n = min m 3 := ⟨_, rfl⟩
  have hn' : min (m : Int) 3 = (n : Int) := by omega
  obtain ⟨s, hs0⟩ : ∃ s, s = openRd k L := ⟨_, rfl⟩
  rw [← hs0]
  have hnm : n ≤ m := by omega
  have hn3 : n ≤ 3 := by omega
  have hmn : m < 3 ↔ n < 3 := by omega
  have HM := Lib.hid hm
  have HT : L.take 3 = L.take n := by
    by_cases h : m ≤ 3
    · rw [List.take_of_length_le (by omega), List.take_of_length_le (by omega)]
    · rw [show n = 3 by omega]
  have HOP : Hid (s = if L.take n = [72, 89, k].take n then (if n < 3 then (3, []) else (0, L.drop n)) else (2, [])) := by
    show _ = _
    rw [hs0]; unfold openRd
    rw [HT, hm, ← hn]
    by_cases h3 : n < 3
    · rw [if_pos (show m < 3 by omega), if_pos h3]
    · rw [if_neg (show ¬ m < 3 by omega), if_neg h3, show n = 3 by omega]
  have HTL : Hid ((L.take n).length = n) := by show _ = _; rw [List.length_take]; omega
  have hhead : Hid (([72, 89, k].take n).length = n) := by show _ = _; rw [List.length_take]; simp; omega
  have HS := Lib.hid hs
  have HOK := Lib.hid hok
  have HB := Lib.hid hby
  have HAC := Lib.hid hAc
  clear hs0 hm HT hs hok hby hAc hn
  obtain ⟨bb, hbb⟩ : ∃ bb, decide (L.take n = [72, 89, k].take n) = bb := ⟨_, rfl⟩
  have HBB := Lib.hid hbb
  clear hbb
  have kc := fun (w : World) (C : Array Value) (n c : Nat) => Lib.run_convert_bytes_const (P := Try.prog) w 40 5 C n c Try.underlying40 Try.underlying5
  go_enter Try.func43, Try.ntmps43
  have HO := Lib.hid (((SeesP.marked w [.int .u8 72, .int .u8 89] 5 (2, 3)).alloc (fun b hb => by subst hb; rw [alloc_size]; omega) (.cells #[.int .u8 (k : Int)] 5)))
  have HN := Lib.hid (SeesP.newAt (w.alloc (.cells #[.int .u8 72, .int .u8 89] 5 (2, 3))) [.int .u8 (k : Int)] 5)
  have HQ := Lib.hid (((Q.refl w).alloc (.cells #[.int .u8 72, .int .u8 89] 5 (2, 3))).alloc (.cells #[.int .u8 (k : Int)] 5))
  rw [alloc_size] at HN
  go_wp2_with (at_builtin; go_loud (refine wpList_append_full rfl (.tmp 8) (.tmp 10) 40 rfl 5 i0 (.int .u8 0) 1 Try.underlying40 hi hz0 hz1 hz2 rfl _ _ _ _ 2 1 1 _ _ rfl rfl rfl rfl (by omega) (by omega) HO.out HN.out (by unfold maxLen; omega) (by omega) ?_; intro v1 w1 hown1 hq1; obtain ⟨gg, cap, rfl⟩ := own_form hown1; have hcap := (own_cap hown1).1; have H1 := Lib.hid (And.intro hown1 hq1); clear hown1 hq1))
  have HQ1 : Hid (Q w w1) := HQ.out.trans (H1.out.2.mono HQ.out.size)
  have heq : Hid (∀ a, Calls Try.prog 54 #[.slice A n c, .slice gg n cap] (w1.drewN a) fun e w' => e = .returned (.bool bb) ∧ w1.drewN a = w') := fun a =>
    equal_sees ok _ A gg n c n cap (L.take n) ([72, 89, k].take n) (w1.drewN a) bb HTL.out hhead.out (by rw [List.map_take]; exact ((HS.out.belowP HOK.out HQ1.out).take n).drewN a) (by rw [List.map_take]; exact ((sees_own H1.out.1).take n).drewN a) (fun x hx => HB.out x (List.mem_of_mem_take hx)) (fun x hx => by have h := List.mem_of_mem_take hx; simp only [List.mem_cons, List.not_mem_nil, or_false] at h; omega) HBB.out
  have hnc : n ≤ c := by omega
  have hncap : n ≤ cap := by omega
  go_quiet ((go_at_call 54; exact quiet_same (heq.out _)))
  cases bb
  · have HR : Hid (s = (2, [])) := HOP.out.trans (if_neg (fun h => by have h2 : decide (L.take n = [72, 89, k].take n) = false := HBB.out; rw [decide_eq_false_iff_not] at h2; exact h2 h))
    go_wp2_with fail
    go_ret
    rw [HR.out]
    exact ⟨_, rfl, InHas.fresh _ none 0 0 2 [] w.heap.size rfl (SeesP.nil _ _ _) HQ1.out.size (by omega) (fun _ => rfl) (by simp) (by omega), (HQ1.out.drewN _).alloc _⟩
  · have HR : Hid (s = (if n < 3 then (3, []) else (0, L.drop n))) := HOP.out.trans (if_pos (by have h2 : decide (L.take n = [72, 89, k].take n) = true := HBB.out; rwa [decide_eq_true_iff] at h2))
    by_cases h3 : n < 3
    · have HR2 := Lib.hid (HR.out.trans (if_pos h3))
      go_wp2_with fail
      go_ret
      rw [HR2.out]
      exact ⟨_, rfl, InHas.fresh _ none 0 0 3 [] w.heap.size rfl (SeesP.nil _ _ _) HQ1.out.size (by omega) (fun _ => rfl) (by simp) (by omega), (HQ1.out.drewN _).alloc _⟩
    · have HR2 := Lib.hid (HR.out.trans (if_neg h3))
      have HDL : Hid ((L.drop n).length = m - n) := by show _ = _; rw [List.length_drop, HM.out]
      have hcl : Hid (∀ a, Calls Try.prog 52 #[.slice (cutA A c n 1) (m - n) (c - n)] (w1.drewN a) fun e w' => ∃ B bc, e = .returned (.slice B (m - n) bc) ∧ w'.ownsRow w1.heap.size 5 1 (.slice B (m - n) bc) (m - n) ((L.drop n).map B8) ∧ Q (w1.drewN a) w') := fun a =>
        clone_k (cutA A c n 1) (c - n) (m - n) ok (L.drop n) (w1.drewN a) HDL.out (by have h1 := ((HS.out.belowP HOK.out HQ1.out).cut (c := c) (l := n) (s := 1) (by rw [List.length_map, HM.out]; omega)).drewN a; rw [Nat.mul_one, ← List.map_drop] at h1; exact h1) (by omega)
      go_wp2_with (first
        | (refine gate 37 rfl ?_; go_loud (refine wpList_slice_lo rfl 40 (.tmp 35) (.tmp 36) rfl 5 Try.underlying40 i0 hi 1 hz1 A m c rfl .i64 n rfl hnm ?_))
        | (go_at_call 52; go_loud ((with_reducible refine (hcl.out _).mono ?_); rintro e w2 ⟨B, bc, rfl, h1, h2⟩; have H2 := Lib.hid (And.intro h1 h2); clear h1 h2)))
      go_ret
      rw [HR2.out]
      have hq2 : Q w w2 := (HQ1.out.drewN _).step H2.out.2
      refine ⟨_, rfl, InHas.fresh _ B (m - n) bc 0 (L.drop n) w.heap.size HDL.out ((sees_own H2.out.1).more (fun b ⟨h1, h2⟩ => ⟨Nat.le_trans HQ1.out.size h1, h2⟩)) hq2.size (own_cap H2.out.1).1 (own_nil H2.out.1) (fun x hx => HB.out x (List.mem_of_mem_drop hx)) (by omega), hq2.alloc _⟩
end Go.Proofs.Ytffenfhbiapefaa
