/- Words for rows of a call's own: what lasts, what forms they have. -/
import Derived.Test.YtffenfhbiapefaaBts
import Derived.Test.YtffenfhbiapefaaStep
import Derived.Lib.SmallJoins
namespace Go.Proofs.Ytffenfhbiapefaa
set_option linter.unusedVariables false
set_option linter.unusedSimpArgs false
open Go.RowKit

theorem own_only {S : Nat → Prop} {w w' : World} {base : Nat} {e : TypeId} {size n : Nat} {v : Value} {xs : List Value} (h : w.ownsRow base e size v n xs) (ho : Only S w w') (hS : ∀ g, v.ownBlock = some g → ¬ S g) : w'.ownsRow base e size v n xs := by
  have hlt := own_lt h
  obtain ⟨h1, h2⟩ := h
  refine ⟨h1, ?_⟩
  rcases h2 with h2 | ⟨g, cap, cur, rfl, hg, hh, r⟩
  · exact .inl h2
  · exact .inr ⟨g, cap, cur, rfl, hg, by rw [ho.block g (hlt g rfl) (hS g rfl)]; exact hh, r⟩
theorem Grew.only {w w' : World} {v v' : Value} (h : Grew w w' v v') (S : Nat → Prop) (hS : ∀ g, v.ownBlock = some g → S g) : Only S w w' :=
  ⟨h.os, h.tape, h.output, h.size, fun g hg hn => h.block g hg (fun hv => hn (hS g hv))⟩
/-- The value lies where another one lay, or in a block that is new. -/
def NewOr (w : World) (v0 u : Value) : Prop := ∀ g, u.ownBlock = some g → v0.ownBlock = some g ∨ w.heap.size ≤ g
theorem Only.through {S T : Nat → Prop} {w w1 w2 : World} (h : Only S w w1) (k : Only T w1 w2) (hT : ∀ g, T g → S g ∨ w.heap.size ≤ g) : Only S w w2 :=
  ⟨k.os.trans h.os, k.tape.trans h.tape, k.output.trans h.output, Nat.le_trans h.size k.size, fun g hg hn => by
    rw [k.block g (Nat.lt_of_lt_of_le hg h.size) (fun ht => by rcases hT g ht with h' | h'; exact hn h'; omega)]
    exact h.block g hg hn⟩
theorem own_one {w : World} {base : Nat} {e : TypeId} {size n : Nat} {v : Value} {xs : List Value} (h : w.ownsRow base e size v n xs) : ∃ A n c, v = .slice A n c := by
  rcases Go.Joins.ownsRow_forms h with ⟨h, _⟩ | ⟨g, cap, h⟩
  · exact ⟨_, _, _, h⟩
  · exact ⟨_, _, _, h⟩
theorem own_form {w : World} {base : Nat} {e : TypeId} {size n : Nat} {v : Value} {xs : List Value} (h : w.ownsRow base e size v n xs) : ∃ A c, v = .slice A n c := by
  rcases Go.Joins.ownsRow_forms h with ⟨h', rfl⟩ | ⟨g, cap, h'⟩
  · exact ⟨_, _, h'⟩
  · exact ⟨_, _, h'⟩
theorem sees_one (w : World) (u : Value) (t : TypeId) (ok : Nat → Prop) (hok : ok w.heap.size) : SeesP (w.alloc (.cells #[u] t)) ok (some ⟨w.heap.size, 0, none⟩) [u] := fun _ =>
  ⟨_, 0, rfl, hok, fun j x hj => by
    match j, hj with
    | 0, hj => simp at hj; subst hj; go_simp⟩
def I64 (x : Nat) : Value := .int .i64 (x : Int)
theorem sees_own {w : World} {base : Nat} {e : TypeId} {A : Option Addr} {n m c : Nat} {xs : List Value} (h : w.ownsRow base e 1 (.slice A m c) n xs) : SeesP w (fun b => base ≤ b ∧ b < w.heap.size) A xs := by
  obtain ⟨A', c', h1, _, h2⟩ := SeesP.of_own h
  injection h1 with h1 _ _
  subst h1
  exact h2
theorem own_mono {w : World} {base base' : Nat} {e : TypeId} {size n : Nat} {v : Value} {xs : List Value} (h : w.ownsRow base e size v n xs) (hb : base' ≤ base) : w.ownsRow base' e size v n xs := Go.Joins.ownsRow_le h hb
def lenV : Value → Nat
  | .slice _ n _ => n
  | _ => 0
theorem wrap_u64 (l : Int) : ∃ u : Nat, IntKind.u64.wrap l = (u : Int) ∧ u ≤ 18446744073709551615 := by
  rw [IntKind.wrap_u64]
  obtain ⟨u, hu⟩ := Int.eq_ofNat_of_zero_le (Int.emod_nonneg l (show (18446744073709551616 : Int) ≠ 0 by omega))
  exact ⟨u, hu, by omega⟩
theorem own_cap {w : World} {base : Nat} {e : TypeId} {n m c : Nat} {A : Option Addr} {xs : List Value} (h : w.ownsRow base e 1 (.slice A m c) n xs) : m ≤ c ∧ m = n := by
  rcases h.2 with ⟨h1, h2⟩ | ⟨g, cap, cur, h1, _, _, h2, _⟩
  · injection h1 with _ h3 h4
    subst h3 h4
    exact ⟨Nat.le_refl _, h2.symm⟩
  · injection h1 with _ h3 h4
    subst h3 h4
    exact ⟨h2, rfl⟩
theorem own_nil {w : World} {base : Nat} {e : TypeId} {n m c : Nat} {A : Option Addr} {xs : List Value} (h : w.ownsRow base e 1 (.slice A m c) n xs) : A = none → c = 0 := by
  rcases h.2 with ⟨h1, h2⟩ | ⟨g, cap, cur, h1, _⟩
  · injection h1 with _ _ h4
    exact fun _ => h4
  · injection h1 with h2 _ _
    intro h; rw [h] at h2; cases h2
theorem sees_new (w : World) (cs : List Value) (t : TypeId) (ok : Nat → Prop) (hok : ok w.heap.size) : SeesP (w.alloc (.cells cs.toArray t)) ok (some ⟨w.heap.size, 0, none⟩) cs := fun hn => by
  obtain ⟨b, o, e, _, hc⟩ := SeesP.new w cs t hn
  injection e with e
  injection e with e1 e2 _
  subst e1 e2
  exact ⟨_, _, rfl, hok, hc⟩
theorem agg4 {v : Value} {f : Nat → Value} (h : AggIs v 4 f) : v = .agg #[f 0, f 1, f 2, f 3] := by
  obtain ⟨cs, rfl, h1, h2⟩ := h
  obtain ⟨l⟩ := cs
  match l, h1 with
  | [a, b, c, d], _ =>
    have e0 := h2 0 (by omega)
    have e1 := h2 1 (by omega)
    have e2 := h2 2 (by omega)
    have e3 := h2 3 (by omega)
    simp at e0 e1 e2 e3
    rw [e0, e1, e2, e3]
end Go.Proofs.Ytffenfhbiapefaa
