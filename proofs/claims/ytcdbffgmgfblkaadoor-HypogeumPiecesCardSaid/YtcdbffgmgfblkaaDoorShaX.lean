/- The walk through sum's take: bytes are taken. -/
import Derived.Test.YtcdbffgmgfblkaaDoorShaT
import Derived.Test.YtcdbffgmgfblkaaDoorOwn
namespace Go.Proofs.YtcdbffgmgfblkaaDoor
set_option linter.unusedVariables false
set_option linter.unusedSimpArgs false
open Go.RowKit

theorem Only.cell' {S : Nat → Prop} {w w' : World} (h : Only S w w') {p : Addr} (hp : p.block < w.heap.size) (hS : ¬ S p.block) : w'.cell? p = w.cell? p := World.cell?_of_block (w := w) (h.block p.block hp hS)
theorem feed_len {s : V8 × List Nat} (h : s.2.length < 64) (x : Nat) : (feed s x).2.length = (s.2.length + 1) % 64 := by
  unfold feed
  split
  · rename_i h1; rw [h1]; rfl
  · rename_i h1
    rw [List.length_append, List.length_singleton, Nat.mod_eq_of_lt (by omega)]
theorem feeds_snoc (L : List Nat) (x : Nat) : feeds (L ++ [x]) = feed (feeds L) x := by unfold feeds; rw [List.foldl_append]; rfl
theorem foldl_len : ∀ (L : List Nat) (s : V8 × List Nat), s.2.length < 64 → (L.foldl feed s).2.length = (s.2.length + L.length) % 64
  | [], s, h => by rw [List.foldl_nil, List.length_nil, Nat.add_zero, Nat.mod_eq_of_lt h]
  | x :: L, s, h => by
    have h1 := feed_len h x
    rw [List.foldl_cons, foldl_len L _ (by rw [h1]; exact Nat.mod_lt _ (by omega)), h1, List.length_cons]; omega
theorem feeds_len (L : List Nat) : (feeds L).2.length = L.length % 64 := by
  unfold feeds; rw [foldl_len L _ (by simp)]; simp
/-- A state that took L. -/
def StHas (w : World) (g : Nat) (L : List Nat) : Prop := ∃ wt, w.rowIs g 84 73 (stF (feeds L).1 wt L.length) ∧ (∀ j, j < 64 → wt j ≤ 255) ∧ (∀ j, j < L.length % 64 → wt j = (feeds L).2.getD j 0)
theorem StHas.only {S : Nat → Prop} {w w' : World} {g : Nat} {L : List Nat} (h : StHas w g L) (ho : Only S w w') (hg : ¬ S g) : StHas w' g L := by
  obtain ⟨wt, h1, h2, h3⟩ := h
  exact ⟨wt, ho.row h1 hg, h2, h3⟩
theorem Steps.only {S : Nat → Prop} {w w' : World} (h : Steps w) (ho : Only S w w') (hS : ¬ S 1) (h1 : 1 < w.heap.size) : Steps w' := fun i hi => (ho.cell' (p := ⟨1, i, none⟩) h1 hS).trans (h i hi)
/-- A byte was put, and counted. -/
theorem st_put {w : World} {g n x : Nat} {v : V8} {wt : Nat → Nat} (h : w.rowIs g 84 73 (stF v wt n)) (m : Nat) (hm : m < 64) :
    ((w.setCell ⟨g, 8 + m, none⟩ (.int .u8 (x : Int))).setCell ⟨g, 72, none⟩ (.int .i64 ((n + 1 : Nat) : Int))).rowIs g 84 73 (stF v (fun j => if j = m then x else wt j) (n + 1)) :=
  ((h.set (8 + m) _).set 72 _).congr fun i hi => by
    by_cases h72 : i = 72
    · subst h72; rfl
    · rw [if_neg h72]
      by_cases hm' : i = 8 + m
      · subst hm'
        rw [if_pos rfl, stF_w _ _ _ _ hm, if_pos rfl]
      · rw [if_neg hm']
        unfold stF
        by_cases h8 : i < 8
        · rw [if_pos h8, if_pos h8]
        · rw [if_neg h8, if_neg h8, if_pos (by omega), if_pos (by omega)]
          show _ = B8 (if i - 8 = m then x else wt (i - 8))
          rw [if_neg (by omega)]
theorem wtL_full {wt : Nat → Nat} {b : List Nat} {x : Nat} (hb : b.length = 63) (h : ∀ j, j < 63 → wt j = b.getD j 0) : wtL (fun j => if j = 63 then x else wt j) = b ++ [x] := by
  apply List.ext_getElem
  · unfold wtL; simp [hb]
  · intro i h1 h2
    unfold wtL at h1 ⊢
    simp only [List.length_map, List.length_range] at h1
    rw [List.getElem_map, List.getElem_range]
    by_cases hi : i = 63
    · subst hi
      rw [if_pos rfl, List.getElem_append_right (by omega)]; simp [hb]
    · rw [if_neg hi, h i (by omega), List.getElem_append_left (by omega), List.getD_eq_getElem?_getD, List.getElem?_eq_getElem (by omega)]; rfl

theorem st_next {w' : World} {g n q x : Nat} {L1 : List Nat} {wt : Nat → Nat} (row : w'.rowIs g 84 73 (stF (feeds L1).1 (fun j => if j = q then x else wt j) (n + 1))) (hn : n = L1.length) (hq : q = n % 64) (hq63 : q ≠ 63) (h2 : ∀ j, j < 64 → wt j ≤ 255) (hx : x ≤ 255)
    (h3 : ∀ j, j < q → wt j = (feeds L1).2.getD j 0) : StHas w' g (L1 ++ [x]) := by
  have hfl := feeds_len L1
  have hf : feeds (L1 ++ [x]) = ((feeds L1).1, (feeds L1).2 ++ [x]) := by rw [feeds_snoc]; unfold feed; rw [if_neg (by omega)]
  refine ⟨fun j => if j = q then x else wt j, ?_, fun j hj => ?_, fun j hj => ?_⟩
  · rw [hf, List.length_append, List.length_singleton, ← hn]; exact row
  · show (if j = q then x else wt j) ≤ 255
    split
    · exact hx
    · exact h2 j hj
  · rw [hf]
    show (if j = q then x else wt j) = ((feeds L1).2 ++ [x]).getD j 0
    rw [getD_snoc, hfl, ← hn, ← hq]
    split
    · rfl
    · rw [List.length_append, List.length_singleton] at hj
      exact h3 j (by omega)
theorem st_full {w' : World} {g n q x : Nat} {L1 : List Nat} {wt : Nat → Nat} (row : w'.rowIs g 84 73 (stF (foldB (feeds L1).1 (wtL (fun j => if j = q then x else wt j))) (fun j => if j = q then x else wt j) (n + 1))) (hn : n = L1.length) (hq : q = n % 64) (hq63 : q = 63) (h2 : ∀ j, j < 64 → wt j ≤ 255) (hx : x ≤ 255)
    (h3 : ∀ j, j < q → wt j = (feeds L1).2.getD j 0) : StHas w' g (L1 ++ [x]) := by
  have hfl := feeds_len L1
  subst hq63
  have hw := wtL_full (wt := wt) (b := (feeds L1).2) (x := x) (by omega) h3
  have hf : feeds (L1 ++ [x]) = (foldB (feeds L1).1 ((feeds L1).2 ++ [x]), []) := by rw [feeds_snoc]; unfold feed; rw [if_pos (by omega)]
  refine ⟨fun j => if j = 63 then x else wt j, ?_, fun j hj => ?_, fun j hj => ?_⟩
  · rw [hf, List.length_append, List.length_singleton, ← hn, ← hw]; exact row
  · show (if j = 63 then x else wt j) ≤ 255
    split
    · exact hx
    · exact h2 j hj
  · rw [List.length_append, List.length_singleton] at hj
    omega
/-- What a call leaves that hands nothing back and writes the state alone. -/
def Took (w : World) (g : Nat) (L : List Nat) (e : Ending) (w' : World) : Prop := e = .returned (.tuple #[]) ∧ Hid (StHas w' g L ∧ Only (fun k => k = g) w w')
set_option maxHeartbeats 4000000 in
set_option maxRecDepth 100000 in
theorem take_ok1 (g m c : Nat) (A : Option Addr) (L X : List Nat) (ok : Nat → Prop) (w : World) (h : StHas w g L) (hS : Steps w) (hg : 1 < g) (hs : SeesP w ok A (X.map B8)) (hok : ∀ b, ok b → b < w.heap.size ∧ b ≠ g) (hX : ∀ x ∈ X, x ≤ 255) (hm : X.length = m) (hlen : L.length + m ≤ 1000000000000) :
    Calls Tryd.prog 40 #[.pointer (some ⟨g, 0, none⟩), .slice A m c] w (Took w g (L ++ X)) := by
  have hglt : g < w.heap.size := by obtain ⟨wt, h1, _⟩ := h; exact h1.lt
  have HM := Lib.hid hm
  have HS := Lib.hid hS
  have HX := Lib.hid hX
  have HR := Lib.hid hs
  have HOK := Lib.hid hok
  have H0 : Hid (StHas w g (L ++ X.take 0) ∧ Only (fun k => k = g) w w) := ⟨by simpa using h, Only.refl _ _⟩
  clear h hS hs hok hX hm
  go_enter Tryd.func40, Tryd.ntmps40
  go_wp2_with fail
  go_loopw [8] (fun i wr => ∃ k : Nat, k ≤ m ∧ i = .int .i64 k ∧ Hid (StHas wr g (L ++ X.take k) ∧ Only (fun k => k = g) w wr)) (fun i _ => m - (intOf i).toNat)
  case atStart => exact ⟨0, by omega, rfl, H0.out⟩
  case round =>
    obtain ⟨k, hk, rfl, HW⟩ := hrel
    by_cases hkm : k < m
    · have hkl : k < X.length := by rw [HM.out]; exact hkm
      obtain ⟨bb, oo, rfl, hbb, hc⟩ := (HW.out.2.sees HR.out HOK.out).at_ (k := k) (u := B8 X[k]) (by simp [hkl])
      replace hc : wr.cell? ⟨bb, oo + k, none⟩ = some (.int .u8 (X[k] : Int)) := hc
      have HNX : Hid (L ++ X.take (k + 1) = (L ++ X.take k) ++ [X[k]]) := by show _ = _; rw [List.take_succ_eq_append_getElem hkl, List.append_assoc]
      have HXB := Lib.hid (HX.out X[k] (List.getElem_mem hkl))
      have hll : (L ++ X.take k).length = L.length + k := by rw [List.length_append, List.length_take]; omega
      have HLL := Lib.hid hll
      generalize X[k] = x at *
      generalize L ++ X.take k = L1 at *
      obtain ⟨wt, h1, h2, h3⟩ := HW.out.1
      obtain ⟨n, hn⟩ : ∃ n, n = L1.length := ⟨_, rfl⟩
      rw [← hn] at h1 h3 hll
      have HN := Lib.hid hn
      have hfl := feeds_len L1
      rw [← hn] at hfl
      obtain ⟨q, hq⟩ : ∃ q, q = n % 64 := ⟨_, rfl⟩
      rw [← hq] at h3 hfl
      have hq64 : q < 64 := by omega
      have cn := h1.cell (i := 72) (by omega)
      rw [stF_n] at cn
      have cw := h1.cell (i := 8 + q) (by omega)
      rw [stF_w _ _ _ _ hq64] at cw
      have zw := h1.frozen (8 + q)
      have zn := h1.frozen 72
      have H1 := Lib.hid h1
      have H2 := Lib.hid h2
      have H3 := Lib.hid h3
      have HF := Lib.hid hfl
      have HQ := Lib.hid hq
      have hn12 : n ≤ 1000000000000 := by omega
      clear h1 h2 h3 hbb hn hll hfl
      go_wp2_with fail
      have htm : (n : Int).tmod 64 = (q : Int) := by rw [Int.tmod_eq_emod_of_nonneg (by omega), hq]; omega
      have hq64I : (q : Int) < 64 := by omega
      clear hq
      go_still_tail 10, (by kernel_rfl)
      clear htm
      have zw' : wr.drew.frozen? ⟨g, 8 + q, none⟩ = false := zw
      have zn' : wr.drew.frozen? ⟨g, 72, none⟩ = false := zn
      have cw' : wr.drew.cell? ⟨g, 8 + q, none⟩ = some (.int .u8 (wt q : Int)) := cw
      have cn' : wr.drew.cell? ⟨g, 72, none⟩ = some (.int .i64 (n : Int)) := cn
      have HD : Hid (wr.drew.rowIs g 84 73 (stF (feeds L1).1 wt n) ∧ Only (fun k => k = g) w wr.drew) := ⟨H1.out, HW.out.2.drew⟩
      change wpList _ _ _ _ _ wr.drew
      generalize wr.drew = w3 at *
      clear zw zn cw cn
      have hqn : 72 ≠ 8 + q := by omega
      have hqn' : ¬ (8 + q = 72) := by omega
      by_cases hf : q = 63
      · have hrem : ((n : Int) + 1) % 64 = 0 := by have := HQ.out; omega
        have HT : Hid (Calls Tryd.prog 52 #[.pointer (some ⟨g, 0, none⟩)] ((w3.setCell ⟨g, 8 + q, none⟩ (.int .u8 (x : Int))).setCell ⟨g, 72, none⟩ (.int .i64 ((n : Int) + 1))) fun e w' => e = .returned (.tuple #[]) ∧ Hid (w'.rowIs g 84 73 (stF (foldB (feeds L1).1 (wtL (fun j => if j = q then x else wt j))) (fun j => if j = q then x else wt j) (n + 1)) ∧ Only (fun k => k = g) ((w3.setCell ⟨g, 8 + q, none⟩ (.int .u8 (x : Int))).setCell ⟨g, 72, none⟩ (.int .i64 ((n : Int) + 1))) w')) :=
          turn_ok g (n + 1) _ _ _ (st_put HD.out.1 q hq64) (fun j hj => by
            show (if j = q then x else wt j) ≤ 255
            split
            · exact HXB.out
            · exact H2.out j hj) (HS.out.only ((HD.out.2.setCell (p := ⟨g, 8 + q, none⟩) rfl _).setCell (p := ⟨g, 72, none⟩) rfl _) (by show ¬ 1 = g; omega) (by omega)) hg
        have HF63 := Lib.hid hf
        clear hf
        go_wp2_with (go_at_call 52; go_loud ((with_reducible refine HT.out.mono ?_); rintro e w5 ⟨rfl, H5⟩))
        go_roundw
        case rel => exact ⟨k + 1, by omega, by go_num, by rw [HNX.out]; exact st_full H5.out.1 HN.out HQ.out HF63.out H2.out HXB.out H3.out, ((HD.out.2.setCell (p := ⟨g, 8 + q, none⟩) rfl _).setCell (p := ⟨g, 72, none⟩) rfl _).trans H5.out.2⟩
        case measure => simp [intOf]; omega
      · have hrem : ((n : Int) + 1) % 64 = ((q + 1 : Nat) : Int) := by have := HQ.out; omega
        have hne : (((q + 1 : Nat) : Int) == 0) = false := beq_eq_false_iff_ne.2 (by omega)
        go_wp2_with fail
        go_roundw
        case rel => exact ⟨k + 1, by omega, by go_num, by rw [HNX.out]; exact st_next (st_put HD.out.1 q hq64) HN.out HQ.out hf H2.out HXB.out H3.out, (HD.out.2.setCell (p := ⟨g, 8 + q, none⟩) rfl _).setCell (p := ⟨g, 72, none⟩) rfl _⟩
        case measure => simp [intOf]; omega
    · go_wp2_with fail
      go_end0
      have hk' : k = m := by omega
      have h1 := HW.out
      rw [hk', List.take_of_length_le (by rw [HM.out]; exact Nat.le_refl _)] at h1
      exact ⟨rfl, h1⟩
end Go.Proofs.YtcdbffgmgfblkaaDoor
