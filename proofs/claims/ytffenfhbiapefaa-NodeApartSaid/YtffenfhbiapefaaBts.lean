/- Bytes: values, rows of them. -/
import Derived.Test.YtffenfhbiapefaaProg
import Derived.Test.YtffenfhbiapefaaAgg
import Derived.Test.YtffenfhbiapefaaSl
namespace Go.Proofs.Ytffenfhbiapefaa
set_option linter.unusedVariables false
set_option linter.unusedSimpArgs false
open Go.RowKit

/-- A byte's value. -/
def B8 (x : Nat) : Value := .int .u8 (x : Int)

/-- A row of literals that was just made. -/
theorem own_new (w : World) (e : TypeId) (cs : List Value) (h : cs.length ≤ maxLen) : (w.alloc (.cells cs.toArray e)).ownsRow w.heap.size e 1 (.slice (some ⟨w.heap.size, 0, none⟩) cs.length cs.length) cs.length cs :=
  ⟨by omega, .inr ⟨_, _, cs.toArray, rfl, Nat.le_refl _, heap_alloc_new _ _, Nat.le_refl _, h, by simp, by simp⟩⟩
theorem own_base {w : World} {b b' : Nat} {e : TypeId} {size n : Nat} {v : Value} {xs : List Value} (h : w.ownsRow b e size v n xs) (hb : b' ≤ b) : w.ownsRow b' e size v n xs := by
  obtain ⟨h1, h2⟩ := h
  refine ⟨h1, ?_⟩
  rcases h2 with h2 | ⟨g, cap, cur, hv, hg, r⟩
  · exact .inl h2
  · exact .inr ⟨g, cap, cur, hv, by omega, r⟩
theorem B8_one (l : List Nat) : ∀ u ∈ l.map B8, u.oneCell' = true := by
  intro u hu
  simp at hu
  obtain ⟨_, _, rfl⟩ := hu
  rfl
theorem info8 : (Try.prog.info? 5).map (fun i => (i.zero, i.size, i.bytes)) = some (some (.int .u8 0), 1, 1) := by kernel_rfl
theorem row8 {w : World} {a : Option Addr} {n c : Nat} {zs : List Int} (h : IsRow .u8 w a n c zs) (k : Nat) (hk : k ≤ n) :
    ((zs.take k).map Int.toNat).length = k ∧ SeesP w (· < w.heap.size) a (((zs.take k).map Int.toNat).map B8) ∧ (∀ x ∈ (zs.take k).map Int.toNat, x ≤ 255) ∧ n ≤ c ∧ c ≤ 9223372036854775807 ∧ (a = none → c = 0) := by
  obtain ⟨l1, l2, l3⟩ := h.len_le
  have hwf := h.wf
  refine ⟨by rw [List.length_map, List.length_take, l2]; omega, ?_, ?_, l1, by unfold maxLen at l3; omega, ?_⟩
  · have e : ((zs.take k).map Int.toNat).map B8 = (zs.map (.int .u8)).take k := by
      rw [List.map_map, ← List.map_take]
      apply List.map_congr_left
      intro z hz
      have := wf8 (hwf z (List.mem_of_mem_take hz))
      simp only [Function.comp, B8]
      rw [Int.toNat_of_nonneg this.1]
    rw [e]; exact h.sees.take k
  · intro x hx
    rw [List.mem_map] at hx
    obtain ⟨z, hz, rfl⟩ := hx
    have := wf8 (hwf z (List.mem_of_mem_take hz))
    omega
  · rintro rfl
    rcases h with ⟨_, _, h, _⟩ | ⟨x, h, _⟩
    · exact h
    · cases h

theorem xor8 {x y : Nat} (hx : x ≤ 255) (hy : y ≤ 255) : bits .xor .u8 (x : Int) (y : Int) = ((x ^^^ y : Nat) : Int) ∧ x ^^^ y ≤ 255 := by
  have h : x ^^^ y < 2 ^ 8 := Nat.xor_lt_two_pow (by omega) (by omega)
  refine ⟨?_, by omega⟩
  have h1 : (BitVec.ofInt 8 (x : Int)).toNat = x := by
    rw [BitVec.ofInt_natCast, BitVec.toNat_ofNat]; exact Nat.mod_eq_of_lt (by omega)
  have h2 : (BitVec.ofInt 8 (y : Int)).toNat = y := by
    rw [BitVec.ofInt_natCast, BitVec.toNat_ofNat]; exact Nat.mod_eq_of_lt (by omega)
  show IntKind.u8.wrap ((BitVec.ofInt 8 (x : Int) ^^^ BitVec.ofInt 8 (y : Int)).toNat : Int) = _
  rw [BitVec.toNat_xor, h1, h2]
  simp [IntKind.wrap, IntKind.bits, IntKind.signed]
  omega
end Go.Proofs.Ytffenfhbiapefaa
