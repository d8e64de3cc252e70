/- Rows of structs of a call's own: append of one; what they read as. -/
import Derived.Test.YtffenfhbiapefaaOwn
namespace Go.Proofs.Ytffenfhbiapefaa
set_option linter.unusedVariables false
set_option linter.unusedSimpArgs false
open Go.RowKit

theorem new_cells (w : World) (cs : List Value) (t : TypeId) : ∀ (j : Nat) (x : Value), cs[j]? = some x → (w.alloc (.cells cs.toArray t)).cell? ((⟨w.heap.size, 0, none⟩ : Addr).add j) = some x := by
  intro j x hx
  rw [add_addr, Nat.zero_add]
  have h := heap_alloc_new w (.cells cs.toArray t)
  simp only [World.cell?, h]
  simpa using hx
/-- append of one struct that was just put into a row. -/
theorem wpList_append_agg {P : Program} {w : World} {ops : Array Oper} {rest : List Oper} {o : Oper} {a : Act} {K : Exit → Act → World → Prop} (hgd : o.guard = none) (s x : Operand) (t : TypeId)
    (ho : o.op = .call { callee := .builtin .append, args := #[s, x], argTypes := #[t, t] })
    (base : Nat) (e : TypeId) (i : TypeInfo) (z : Value) (size bytes : Nat) (ht : P.underlying t = some (.slice e)) (hi : P.info? e = some i) (hz : i.zero = some z)
    (hsize : i.size = size) (hby : i.bytes = bytes) (hzs : z.cells.size = size) (hsz : 0 < size)
    (v : Value) (n : Nat) (xs : List Value) (hs : a.eval s = v) (hown : w.ownsRow base e size v n xs)
    (cs : List Value) (t' : TypeId) (g : Nat) (hg : g = w.heap.size) (hx : a.eval x = .slice (some ⟨g, 0, none⟩) 1 1) (hcs : cs.length = size) (h1 : ∀ u ∈ cs, u.oneCell' = true)
    (h63 : n + 1 ≤ maxLen) (hbytes : (n + 1) * bytes ≤ 140737488355328) (hbase : base ≤ w.heap.size)
    (h : ∀ v' w', w'.ownsRow base e size v' (n + 1) (xs ++ cs) → Grew w w' v v' → v' ≠ .slice none 0 0 → wpList P ops K rest (a.put o.dst v') w') : wpList P ops K (o :: rest) a (w.alloc (.cells cs.toArray t')) := by
  subst hg
  refine wpList_append_own_at _ hgd s x t ho base e i z size bytes ht hi hz hsize hby hzs hsz v n xs hs (hown.alloc _) ⟨w.heap.size, 0, none⟩ 1 1 cs hx (by omega) (new_cells w cs t') h1 h63 hbytes (by simp; omega) (fun v' w' h2 h3 h4 h5 => h v' w' h2 ⟨?_, ?_, ?_, ?_, fun g hg hv => ?_, ?_⟩ (fun hv => by have := (h4.1 hv).2; omega))
  · exact h3.os
  · exact h3.tape
  · exact h3.output
  · have := h3.size; simp at this; omega
  · rw [h3.block g (by simp; omega) (fun e => hv e.symm)]
    exact Below.heap_alloc _ _ _ hg
  · rcases h5 with h5 | h5
    · exact .inl h5
    · exact .inr ⟨_, h5, by simp⟩
theorem own_seesS {w : World} {base : Nat} {e : TypeId} {A : Option Addr} {n m c size : Nat} {xs : List Value} (h : w.ownsRow base e size (.slice A m c) n xs) : SeesP w (fun b => base ≤ b ∧ b < w.heap.size) A xs := fun hn => by
  obtain ⟨h1, h2⟩ := h
  rcases h2 with ⟨hv, rfl⟩ | ⟨g, cap, cur, hv, hg, hh, hnc, hcm, hcs, hxs⟩
  · exact absurd (List.eq_nil_of_length_eq_zero (by simpa using h1)) hn
  · injection hv with hA _ _
    subst hA
    refine ⟨g, 0, rfl, ⟨hg, ?_⟩, fun j u hu => ?_⟩
    · rcases Nat.lt_or_ge g w.heap.size with h | h
      · exact h
      · rw [Array.getElem?_eq_none h] at hh; cases hh
    · simp only [World.cell?, hh, Nat.zero_add]
      subst hxs
      rw [List.getElem?_take] at hu
      split at hu
      · simpa using hu
      · cases hu

theorem own_q {w w' : World} {base : Nat} {e : TypeId} {size n : Nat} {v : Value} {xs : List Value} (h : w.ownsRow base e size v n xs) (hq : Q w w') : w'.ownsRow base e size v n xs := own_only h (Only.of_q (S := fun _ => False) hq) (fun _ _ => id)
end Go.Proofs.Ytffenfhbiapefaa
