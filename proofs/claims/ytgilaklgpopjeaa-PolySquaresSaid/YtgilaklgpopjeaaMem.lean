/- Words for memory that a walk needs: a slice that reads as a row of cells, nil too; and how such a reading lasts. -/
import Derived.WalkKit
import Derived.IntWalk
import Derived.Deep.Draws
import Derived.Deep.QuietTactic
import Derived.BigQuiet
import Derived.Lib.Hide
namespace Go.Proofs.Ytgilaklgpopjeaa
open Go.RowKit

/-- The slice address A reads as the cells xs, in a block below B (nothing is asked of an empty one). -/
def Sees (w : World) (B : Nat) (A : Option Addr) (xs : List Value) : Prop :=
  xs ≠ [] → ∃ b o, A = some ⟨b, o, none⟩ ∧ b < B ∧ ∀ j u, xs[j]? = some u → w.cell? ⟨b, o + j, none⟩ = some u

section
variable {w w' : World} {B B' : Nat} {A : Option Addr} {xs : List Value}
theorem Sees.nil (w : World) (B : Nat) (A : Option Addr) : Sees w B A [] := fun h => absurd rfl h
theorem Sees.at_ (h : Sees w B A xs) {k : Nat} {u : Value} (hk : xs[k]? = some u) : ∃ b o, A = some ⟨b, o, none⟩ ∧ b < B ∧ w.cell? ⟨b, o + k, none⟩ = some u := by
  obtain ⟨b, o, e, hb, hc⟩ := h (by rintro rfl; simp at hk)
  exact ⟨b, o, e, hb, hc k u hk⟩
theorem Sees.keep (h : Sees w B A xs) (hk : ∀ p : Addr, p.block < B → w'.cell? p = w.cell? p) : Sees w' B A xs := fun hn => by
  obtain ⟨b, o, e, hb, hc⟩ := h hn
  exact ⟨b, o, e, hb, fun j u hu => (hk ⟨b, o + j, none⟩ hb).trans (hc j u hu)⟩
theorem Sees.below (h : Sees w B A xs) (hb : Below B w w') : Sees w' B A xs := h.keep fun _ hp => hb.cell hp
theorem Sees.more (h : Sees w B A xs) (hB : B ≤ B') : Sees w B' A xs := fun hn => by
  obtain ⟨b, o, e, hb, hc⟩ := h hn
  exact ⟨b, o, e, by omega, hc⟩
theorem Sees.drew (h : Sees w B A xs) : Sees w.drew B A xs := h
theorem Sees.drewN (h : Sees w B A xs) (k : Nat) : Sees (w.drewN k) B A xs := h
theorem Sees.alloc (h : Sees w B A xs) (hB : B ≤ w.heap.size) (o : Obj) : Sees (w.alloc o) B A xs := h.keep fun p hp => World.cell?_alloc_lt w o p (by omega)
theorem Sees.setCell (h : Sees w B A xs) {p : Addr} (hB : B ≤ p.block) (u : Value) : Sees (w.setCell p u) B A xs :=
  h.keep fun q hq => World.cell?_setCell_other w p q u (fun e => by subst e; omega)
/-- A row that was just made. -/
theorem Sees.new (w : World) (cs : List Value) (t : TypeId) : Sees (w.alloc (.cells cs.toArray t)) (w.heap.size + 1) (some ⟨w.heap.size, 0, none⟩) cs := fun _ =>
  ⟨_, 0, rfl, by omega, fun j u hu => by
    have h := heap_alloc_new w (.cells cs.toArray t)
    simp only [World.cell?, h]
    simpa using hu⟩
end

/-- A slice of whole numbers that came in: nil, or a row of cap cells of which the first len are its elements. -/
def IsRow (k : IntKind) (w : World) (a : Option Addr) (len cap : Nat) (zs : List Int) : Prop :=
  (a = none ∧ len = 0 ∧ cap = 0 ∧ zs = []) ∨
  ∃ x, a = some x ∧ len ≤ cap ∧ cap ≤ maxLen ∧ zs.length = cap ∧ (∀ i, i < zs.length → w.cell? (x.add i) = some (.int k (zs.getD i 0))) ∧ ∀ n ∈ zs, (Lit.int k n).wf = true
theorem IsRow.len_le {k : IntKind} {w : World} {a : Option Addr} {len cap : Nat} {zs : List Int} (h : IsRow k w a len cap zs) : len ≤ cap ∧ zs.length = cap ∧ cap ≤ maxLen := by
  rcases h with ⟨_, rfl, rfl, rfl⟩ | ⟨x, _, h1, h2, h3, _⟩
  · exact ⟨Nat.le_refl _, rfl, Nat.zero_le _⟩
  · exact ⟨h1, h3, h2⟩
theorem IsRow.wf {k : IntKind} {w : World} {a : Option Addr} {len cap : Nat} {zs : List Int} (h : IsRow k w a len cap zs) : ∀ n ∈ zs, (Lit.int k n).wf = true := by
  rcases h with ⟨_, rfl, rfl, rfl⟩ | ⟨x, _, _, _, _, _, h⟩
  · intro n hn; simp at hn
  · exact h
theorem add_of {x : Addr} {i : Nat} {w : World} {v : Value} (h : w.cell? (x.add 0) = some v) : x.add i = ⟨x.block, x.off + i, none⟩ := by
  have hs : x.spot = none := by
    obtain ⟨b, o, s⟩ := x
    have h1 : (⟨b, o, s⟩ : Addr).add 0 = ⟨b, o, s⟩ := rfl
    rw [h1] at h
    exact World.cell?_spot h
  unfold Addr.add
  split
  · rename_i e; subst e; obtain ⟨b, o, s⟩ := x; simp at hs; subst hs; rfl
  · rfl
theorem IsRow.sees {k : IntKind} {w : World} {a : Option Addr} {len cap : Nat} {zs : List Int} (h : IsRow k w a len cap zs) : Sees w w.heap.size a (zs.map (.int k)) := by
  rcases h with ⟨rfl, rfl, rfl, rfl⟩ | ⟨x, rfl, h1, h2, h3, h4, h5⟩
  · exact Sees.nil _ _ _
  · intro hn
    have hlen : 0 < zs.length := by
      cases zs with
      | nil => exact absurd rfl hn
      | cons _ _ => simp
    have h0 := h4 0 hlen
    have hx : x = ⟨x.block, x.off, none⟩ := by
      have := add_of (i := 0) h0
      simpa [Addr.add] using this
    refine ⟨x.block, x.off, by rw [← hx], ?_, fun j u hj => ?_⟩
    · exact World.block_lt_of_cell? w _ h0
    · rw [← add_of (i := j) h0]
      rw [List.getElem?_map, Option.map_eq_some_iff] at hj
      obtain ⟨z, hz, rfl⟩ := hj
      obtain ⟨hlt, hz'⟩ := List.getElem?_eq_some_iff.1 hz
      rw [h4 j hlt, List.getD_eq_getElem?_getD, hz]; rfl
theorem Sees.prefix_ {w : World} {B : Nat} {A : Option Addr} {xs ys : List Value} (h : Sees w B A (xs ++ ys)) : Sees w B A xs := fun hn => by
  obtain ⟨b, o, e, hb, hc⟩ := h (by simp [hn])
  exact ⟨b, o, e, hb, fun j u hu => hc j u (by rw [List.getElem?_append_left (by exact (List.getElem?_eq_some_iff.1 hu).1)]; exact hu)⟩
theorem Sees.take {w : World} {B : Nat} {A : Option Addr} {xs : List Value} (h : Sees w B A xs) (n : Nat) : Sees w B A (xs.take n) := by
  rw [← List.take_append_drop n xs] at h; exact h.prefix_
theorem wf_bounds {k : IntKind} {a : Int} (h : (Lit.int k a).wf = true) : k.min ≤ a ∧ a ≤ k.max := by
  simp only [Lit.wf, Bool.and_eq_true, decide_eq_true_eq] at h; exact h
theorem wf64 {a : Int} (h : (Lit.int .u64 a).wf = true) : 0 ≤ a ∧ a ≤ 18446744073709551615 := wf_bounds h
theorem wfi64 {a : Int} (h : (Lit.int .i64 a).wf = true) : -9223372036854775808 ≤ a ∧ a ≤ 9223372036854775807 := wf_bounds h
theorem wf8 {a : Int} (h : (Lit.int .u8 a).wf = true) : 0 ≤ a ∧ a ≤ 255 := wf_bounds h

/-- What was there when the call began is as it was. -/
def Q (w w' : World) : Prop := Below w.heap.size w w'
theorem Q.refl (w : World) : Q w w := Below.refl _ _
theorem Q.alloc {w w' : World} (h : Q w w') (o : Obj) : Q w (w'.alloc o) := Below.alloc h h.size o
theorem Q.drew {w w' : World} (h : Q w w') : Q w w'.drew := Below.drew h
theorem Q.drewN {w w' : World} (h : Q w w') (n : Nat) : Q w (w'.drewN n) := h.trans ⟨rfl, rfl, rfl, Nat.le_refl _, fun _ _ => rfl⟩
theorem Q.step {w w1 w2 : World} (h : Q w w1) (k : Below w1.heap.size w1 w2) : Q w w2 := Below.trans h (k.mono h.size)
theorem Q.setNew {w w' : World} (h : Q w w') {p : Addr} (hp : w.heap.size ≤ p.block) (u : Value) : Q w (w'.setCell p u) := Below.setCell h hp u
end Go.Proofs.Ytgilaklgpopjeaa
