/- Plain: rows of whole blocks. -/
import Derived.Test.YtcdbffgmgfblkaaDoorShaP
namespace Go.Proofs.YtcdbffgmgfblkaaDoor
set_option linter.unusedVariables false
set_option linter.unusedSimpArgs false

theorem foldl_block (v : V8) : ∀ (b pre : List Nat), pre.length + b.length = 64 → b ≠ [] → b.foldl feed (v, pre) = (foldB v (pre ++ b), [])
  | [], _, _, h => absurd rfl h
  | x :: r, pre, hl, _ => by
    rw [List.foldl_cons]
    rw [List.length_cons] at hl
    by_cases hr : r = []
    · subst hr
      simp at hl
      have h63 : pre.length = 63 := by omega
      simp [feed, h63]
    · have h63 : ¬ pre.length = 63 := by
        have := List.length_pos_iff.2 hr
        omega
      have hf : feed (v, pre) x = (v, pre ++ [x]) := by simp [feed, h63]
      rw [hf, foldl_block v r (pre ++ [x]) (by rw [List.length_append, List.length_singleton]; omega) hr, List.append_assoc]; rfl
/-- The register behind rows of whole blocks. -/
def regs (v : V8) (P : List Nat) : V8 := (P.foldl feed (v, [])).1
theorem regs_block (v : V8) (P : List Nat) (h : 64 ≤ P.length) : regs v P = regs (foldB v (P.take 64)) (P.drop 64) := by
  have hl : (P.take 64).length = 64 := by rw [List.length_take]; omega
  unfold regs
  conv => lhs; rw [← List.take_append_drop 64 P]
  rw [List.foldl_append, foldl_block v (P.take 64) [] (by simpa using hl) (by intro e; rw [e] at hl; simp at hl), List.nil_append]
theorem sha_regs (L : List Nat) : sha L = outV (regs h256 (padded L)) := rfl
theorem noughts_next {n k : Nat} (hk : k ≤ noughts n) : (n + 1 + k) % 64 = 56 ↔ k = noughts n := by
  unfold noughts at *
  omega
theorem padded_len (L : List Nat) : (padded L).length % 64 = 0 := by
  have h : (lenB (8 * L.length)).length = 8 := rfl
  unfold padded
  rw [List.length_append, List.length_append, List.length_append, List.length_replicate, List.length_singleton, h]
  unfold noughts
  omega
theorem lenB_byte (n : Nat) : ∀ x ∈ lenB n, x ≤ 255 := by
  intro x hx
  simp only [lenB, List.mem_cons, List.not_mem_nil, or_false] at hx
  omega
theorem padded_byte {L : List Nat} (h : ∀ x ∈ L, x ≤ 255) : ∀ x ∈ padded L, x ≤ 255 := by
  intro x hx
  unfold padded at hx
  rw [List.mem_append, List.mem_append, List.mem_append] at hx
  rcases hx with ((hx | hx) | hx) | hx
  · exact h x hx
  · simp at hx; omega
  · have := (List.mem_replicate.1 hx).2; omega
  · exact lenB_byte _ x hx
theorem outW_byte (x : Wd) : ∀ y ∈ outW x, y ≤ 255 := by
  intro y hy
  simp only [outW, List.mem_cons, List.not_mem_nil, or_false] at hy
  omega
theorem sha_byte (L : List Nat) : ∀ y ∈ sha L, y ≤ 255 := by
  intro y hy
  unfold sha outV at hy
  rw [List.mem_flatMap] at hy
  obtain ⟨x, _, hy⟩ := hy
  exact outW_byte x y hy
theorem sha_len (L : List Nat) : (sha L).length = 32 := rfl
end Go.Proofs.YtcdbffgmgfblkaaDoor
