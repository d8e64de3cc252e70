/- A row with room that may bear a mark behind its cells: []byte(s), and appends to it. -/
import Derived.Test.YtcdbffgmgfblkaaDoorShaG
import Derived.Test.YtcdbffgmgfblkaaDoorStrC
import Derived.ArgAppend
namespace Go.Proofs.YtcdbffgmgfblkaaDoor
set_option linter.unusedVariables false
set_option linter.unusedSimpArgs false
open Go.RowKit

/-- A row of one's own: its cells, and the room behind them. -/
structure Spr (w : World) (base g cap : Nat) (xs : List Value) : Prop where
  ge : base ≤ g
  lt : g < w.heap.size
  le : xs.length ≤ cap
  max : cap ≤ maxLen
  at_ : ∀ j u, xs[j]? = some u → w.cell? ⟨g, j, none⟩ = some u
  room : ∀ j, j < cap → (w.cell? ⟨g, j, none⟩).isSome = true ∧ w.frozen? ⟨g, j, none⟩ = false
theorem Spr.sees {w : World} {base g cap : Nat} {xs : List Value} (h : Spr w base g cap xs) : SeesP w (fun k => k = g) (some ⟨g, 0, none⟩) xs := fun _ => ⟨g, 0, rfl, rfl, fun j u hu => by rw [Nat.zero_add]; exact h.at_ j u hu⟩
theorem Spr.of_own {w : World} {base : Nat} {e : TypeId} {v : Value} {n : Nat} {xs : List Value} (h : w.ownsRow base e 1 v n xs) (hn : xs ≠ []) : ∃ g cap, v = .slice (some ⟨g, 0, none⟩) n cap ∧ Spr w base g cap xs ∧ xs.length = n := by
  obtain ⟨h1, h2⟩ := h
  rcases h2 with ⟨_, h2⟩ | ⟨g, cap, cur, hv, hg, hh, hnc, hcm, hcs, hxs⟩
  · subst h2; exact absurd (List.eq_nil_of_length_eq_zero (by simpa using h1)) hn
  · have hcell : ∀ j, w.cell? ⟨g, j, none⟩ = cur[j]? := fun j => by simp only [World.cell?, hh]; rfl
    refine ⟨g, cap, hv, ⟨hg, (Array.getElem?_eq_some_iff.1 hh).1, by omega, hcm, fun j u hu => ?_, fun j hj => ⟨?_, ?_⟩⟩, by omega⟩
    · rw [hcell, ← Array.getElem?_toList]
      have hj := (List.getElem?_eq_some_iff.1 hu).1
      rw [← hxs, List.getElem?_take] at hu
      split at hu
      · exact hu
      · cases hu
    · rw [hcell, Array.getElem?_eq_getElem (by omega)]; rfl
    · simp [World.frozen?, hh]
theorem Spr.put {w : World} {base g cap : Nat} {xs : List Value} (h : Spr w base g cap xs) (hr : xs.length < cap) (x : Value) : Spr (w.setCell ⟨g, xs.length, none⟩ x) base g cap (xs ++ [x]) := by
  have hsz : (w.setCell ⟨g, xs.length, none⟩ x).heap.size = w.heap.size := (Q.setNew (w := w) (w' := w) (Q.refl w) (p := ⟨w.heap.size, 0, none⟩) (Nat.le_refl _) x) |> fun _ => by simp [World.setCell]
  have hsame := World.cell?_setCell_same' w ⟨g, xs.length, none⟩ x (h.room _ hr).1
  have hoth : ∀ j, j ≠ xs.length → (w.setCell ⟨g, xs.length, none⟩ x).cell? ⟨g, j, none⟩ = w.cell? ⟨g, j, none⟩ := fun j hj => World.cell?_setCell_other w _ _ x (by intro e; injection e with _ e; exact hj e.symm)
  refine ⟨h.ge, by rw [hsz]; exact h.lt, by rw [List.length_append, List.length_singleton]; omega, h.max, fun j u hu => ?_, fun j hj => ⟨?_, by rw [World.frozen?_setCell]; exact (h.room j hj).2⟩⟩
  · by_cases hj : j < xs.length
    · rw [List.getElem?_append_left hj] at hu
      rw [hoth j (by omega)]; exact h.at_ j u hu
    · rw [List.getElem?_append_right (by omega)] at hu
      have hj0 : j = xs.length := by
        have := (List.getElem?_eq_some_iff.1 hu).1
        simp at this; omega
      subst hj0
      simp at hu
      subst hu; exact hsame
  · by_cases hj0 : j = xs.length
    · subst hj0; rw [hsame]; rfl
    · rw [hoth j hj0]; exact (h.room j hj).1
theorem Spr.bytes {w : World} (s : ByteArray) (hs : s.size ≤ 1000000000) : ∃ cap, Spr (Go.Lib.bytesWorld w 5 s) w.heap.size w.heap.size cap ((bytesOf s).map B8) ∧ (Go.Lib.bytesCells w 5 s).size = cap ∧ cap = grownCap w s.size 0 5 := by
  have hnew := Go.Lib.bytesWorld_at_new w 5 s
  have hle := grownCap_ge w s.size 0 5
  have hsz : (Go.Lib.bytesCells w 5 s).size = grownCap w s.size 0 5 := by
    have : s.data.size = s.size := rfl
    simp [Go.Lib.bytesCells]; omega
  refine ⟨_, ⟨Nat.le_refl _, by rw [Go.Lib.bytesWorld_size]; omega, ?_, grownCap_le_maxLen w _ _ _ (by unfold maxLen; omega), fun j u hu => ?_, fun j hj => ⟨?_, ?_⟩⟩, hsz, rfl⟩
  · rw [List.length_map, bytesOf_len]; exact hle
  · rw [List.getElem?_map, Option.map_eq_some_iff] at hu
    obtain ⟨x, hx, rfl⟩ := hu
    unfold bytesOf at hx
    rw [List.getElem?_map, Option.map_eq_some_iff] at hx
    obtain ⟨b, hb, rfl⟩ := hx
    obtain ⟨hlt, hb'⟩ := List.getElem?_eq_some_iff.1 hb
    rw [Go.Lib.bytesWorld_cell w 5 s j (by simpa using hlt), List.getD_eq_getElem?_getD, hb]; rfl
  · simp only [World.cell?, hnew]
    rw [Array.getElem?_eq_getElem (by omega)]; rfl
  · simp only [World.frozen?, hnew]
    rw [hsz]
    simp; omega
theorem wpList_append_spr {P : Program} {w : World} {ops : Array Oper} {rest : List Oper} {o : Oper} {a : Act} {K : Exit → Act → World → Prop} (hgd : o.guard = none) (s x : Operand) (t : TypeId)
    (ho : o.op = .call { callee := .builtin .append, args := #[s, x], argTypes := #[t, t] })
    (e : TypeId) (i : TypeInfo) (z : Value) (ht : P.underlying t = some (.slice e)) (hi : P.info? e = some i) (hz : i.zero = some z)
    (hsize : i.size = 1) (hby : i.bytes = 1) (hzs : z.cells.size = 1)
    (base g cap n : Nat) (xs : List Value) (hs : a.eval s = .slice (some ⟨g, 0, none⟩) n cap) (hsp : Spr w base g cap xs) (hn : xs.length = n)
    (ad : Addr) (c : Nat) (u : Value) (hx : a.eval x = .slice (some ad) 1 c) (hu : w.cell? ad = some u) (h1 : u.oneCell' = true) (hsmall : n ≤ 100000000000) (hbase : base ≤ w.heap.size)
    (h : ∀ g' cap' w', Spr w' base g' cap' (xs ++ [u]) → (∀ w0 : World, w0.heap.size ≤ base → Q w0 w → Q w0 w') → wpList P ops K rest (a.put o.dst (.slice (some ⟨g', 0, none⟩) (n + 1) cap')) w') : wpList P ops K (o :: rest) a w := by
  refine wpList_append_arg w hgd s x t ho e i z 1 1 ht hi hz hsize hby hzs (by omega) g 0 n cap xs hs (by omega) (fun j v hv => by rw [Nat.zero_add]; exact hsp.at_ j v hv) ad 1 c [u] hx rfl (fun j v hv => ?_) (by simpa using h1) (fun hr j hj => ?_) (by unfold maxLen; omega) (by omega) (fun hr => ?_) (fun hg v' w' hown hgr => ?_)
  · have hj : j = 0 := by
      have := (List.getElem?_eq_some_iff.1 hv).1
      simp at this; omega
    subst hj
    simp at hv
    subst hv
    rw [show ad.add 0 = ad by simp [Addr.add]]; exact hu
  · simp at hj
    subst hj
    rw [Nat.zero_add, Nat.mul_one, Nat.add_zero]
    exact hsp.room n (by omega)
  · rw [Nat.zero_add, Nat.mul_one]
    show wpList P ops K rest _ (w.setCell ⟨g, n, none⟩ u)
    subst hn
    exact h g cap _ (hsp.put (by omega) u) (fun w0 hb hq => hq.setNew (Nat.le_trans hb hsp.ge) u)
  · obtain ⟨g', cap', rfl, hs', _⟩ := Spr.of_own hown (by simp)
    exact h g' cap' w' { hs' with ge := Nat.le_trans hbase hs'.ge } (fun w0 hb hq => Q.grown hq (World.ownsRow_nil w w0.heap.size e 1) hgr)
end Go.Proofs.YtcdbffgmgfblkaaDoor
