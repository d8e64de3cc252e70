/- The walks through End and Sizes. -/
import Derived.Test.YtcdbffgmgfblkaaDoorCutD
namespace Go.Proofs.YtcdbffgmgfblkaaDoor
set_option linter.unusedVariables false
set_option linter.unusedSimpArgs false
open Go.RowKit


set_option maxHeartbeats 400000 in
theorem end_nil (w : World) : Calls Tryd.prog 38 #[.pointer none] w fun e w' => e = .returned (.tuple #[.slice none 0 0, .bool false]) ∧ w = w' := by
  go_enter Tryd.func38, Tryd.ntmps38
  go_wp2
  go_ret2
  exact ⟨rfl, rfl⟩
set_option maxHeartbeats 400000 in
theorem feed_nil (A : Option Addr) (n c : Nat) (w : World) : Calls Tryd.prog 37 #[.pointer none, .slice A n c] w fun e w' => e = .returned (.slice none 0 0) ∧ w = w' := by
  go_enter Tryd.func37, Tryd.ntmps37
  go_wp2
  go_ret
  exact ⟨rfl, rfl⟩

set_option maxHeartbeats 4000000 in
set_option maxRecDepth 100000 in
theorem end_none (ru : Rl) (base kn r lb : Nat) (v : Value) (w : World) (hk : KnifeHas w base kn r lb ru [] v) :
    Calls Tryd.prog 38 #[.pointer (some ⟨kn, 0, none⟩)] w fun e w' => e = .returned (.tuple #[.slice none 0 0, .bool false]) ∧ w = w' := by
  have c6 : w.cell? ⟨kn, 6, none⟩ = some v := hk.row.cell (i := 6) (by omega)
  obtain ⟨A, c, rfl⟩ := own_form hk.own
  clear hk
  go_enter Tryd.func38, Tryd.ntmps38
  go_wp2
  go_ret2
  exact ⟨rfl, rfl⟩
/-- The last piece was taken. -/
def TookLast (w : World) (base kn r lb : Nat) (ru : Rl) (v : Value) (e : Ending) (w' : World) : Prop :=
  e = .returned (.tuple #[v, .bool true]) ∧ KnifeHas w' base kn r lb ru [] (.slice none 0 0) ∧ Only (OwnK kn r lb) w w'
set_option maxHeartbeats 4000000 in
set_option maxRecDepth 100000 in
theorem end_some (ru : Rl) (base kn r lb : Nat) (p : List Nat) (v : Value) (w : World) (hr : ru.Right) (hk : KnifeHas w base kn r lb ru p v) (hp : p ≠ []) :
    Calls Tryd.prog 38 #[.pointer (some ⟨kn, 0, none⟩)] w (TookLast w base kn r lb ru v) := by
  have c6 : w.cell? ⟨kn, 6, none⟩ = some v := hk.row.cell (i := 6) (by omega)
  obtain ⟨A, c, rfl⟩ := own_form hk.own
  obtain ⟨n, hn⟩ : ∃ n, n = p.length := ⟨_, rfl⟩
  have hn0 : 0 < n := by cases p; exact absurd rfl hp; simp at hn; omega
  have d1 : ((n : Int) == 0) = false := by simp; omega
  have ht := Lib.hid (take_ok ru base kn r lb p _ w hr hk)
  rw [← hn] at ht c6
  have HN := Lib.hid hn
  clear hk hn
  rw [← HN.out]
  go_enter Tryd.func38, Tryd.ntmps38
  go_wp2_with (go_at_call 49; (with_reducible refine ht.out.mono ?_); rintro e w1 ⟨rfl, hk1, ho1⟩)
  go_ret2
  exact ⟨rfl, hk1, ho1⟩

theorem Fed.from_ {w wr : World} {o : Obj} {v0 v out : Value} {base kn r lb : Nat} {ru : Rl} {zs : List (Value × List Nat)} {p : List Nat} (h : Fed (w.alloc o) v0 wr base kn r lb ru zs out p v) : Fed w v0 wr base kn r lb ru zs out p v := by
  have hs : w.heap.size ≤ (w.alloc o).heap.size := by simp
  have hn : ∀ {u : Value}, NewOr (w.alloc o) v0 u → NewOr w v0 u := fun h g hg => by
    rcases h g hg with h | h
    · exact .inl h
    · exact .inr (Nat.le_trans hs h)
  exact ⟨h.knife, h.outs, h.pcs, h.apart, h.outFar, h.pcsFar, (Only.of_q ((Q.refl w).alloc o)).trans h.only, hn h.newV, fun g hg => Nat.le_trans hs (h.newOut g hg), fun z hz => hn (h.newPcs z hz)⟩
/-- One part is fed, that was just put into a row. -/
theorem feed_one (ru : Rl) (base kn r lb c : Nat) (p l : List Nat) (v : Value) (A : Option Addr) (ok : Nat → Prop) (t : TypeId) (w : World) (hr : ru.Right) (hm : ru.m ≤ 18446744073709551615) (hk : KnifeHas w base kn r lb ru p v) (hop : ru.Open p)
    (hs : SeesP w ok A (l.map B8)) (hx : ∀ x ∈ l, x ≤ 255) (hok : ∀ g, ok g → g < w.heap.size ∧ ¬ KnifeS kn r lb v g) (hl : l.length ≤ 1000000) :
    Calls Tryd.prog 37 #[.pointer (some ⟨kn, 0, none⟩), .slice (some ⟨w.heap.size, 0, none⟩) 1 1] (w.alloc (.cells #[.slice A l.length c] t)) (FedOut w base kn r lb ru p l v) := by
  have h := feed_ok ru base kn r lb 1 p v (some ⟨w.heap.size, 0, none⟩) [(.slice A l.length c, l)] (fun g => g < (w.alloc (.cells #[.slice A l.length c] t)).heap.size ∧ ¬ KnifeS kn r lb v g) (w.alloc (.cells #[.slice A l.length c] t)) hr hm (hk.alloc _) hop
    (sees_one w _ t _ ⟨by simp, fun h => by have := hk.lt _ h; omega⟩)
    (fun z hz => by
      obtain rfl := List.mem_singleton.1 hz
      exact ⟨A, c, rfl, ((hs.alloc (fun b hb => (hok b hb).1) _).more (fun b hb => ⟨by have := (hok b hb).1; simp; omega, (hok b hb).2⟩)), hx⟩)
    (fun g hg => hg) (by simp) (by simpa using hl)
  have e : ([(Value.slice A l.length c, l)].flatMap (·.2)) = l := by simp
  rw [e] at h
  exact h.mono fun e w' ⟨zs, out, v', h1, h2, h3⟩ => ⟨zs, out, v', h1, h2.from_, h3⟩
end Go.Proofs.YtcdbffgmgfblkaaDoor
