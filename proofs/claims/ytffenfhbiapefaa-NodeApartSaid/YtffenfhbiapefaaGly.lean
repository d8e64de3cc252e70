/- Plain theory of chapter 06: numbers as bytes, and back. No program in sight. -/
import Derived.Test.YtffenfhbiapefaaStr
namespace Go.Proofs.Ytffenfhbiapefaa
set_option linter.unusedVariables false
set_option linter.unusedSimpArgs false

/-- A number's bytes: seven bits each, the low ones first. -/
def numL (n : Nat) : List Nat := if n < 128 then [n] else (n % 128 + 128) :: numL (n / 128)
termination_by n
decreasing_by omega
theorem numL_small {n : Nat} (h : n < 128) : numL n = [n] := by rw [numL, if_pos h]
theorem numL_big {n : Nat} (h : 128 ≤ n) : numL n = (n % 128 + 128) :: numL (n / 128) := by rw [numL, if_neg (by omega)]
theorem numL_byte (n : Nat) : ∀ x ∈ numL n, x ≤ 255 := by
  induction n using numL.induct with
  | case1 n h => rw [numL_small h]; intro x hx; simp at hx; omega
  | case2 n h ih =>
    rw [numL_big (by omega)]
    intro x hx
    rcases List.mem_cons.1 hx with rfl | hx
    · omega
    · exact ih x hx
theorem numL_pos (n : Nat) : 1 ≤ (numL n).length := by
  rw [numL]; split <;> simp
theorem numL_len (n : Nat) : ∀ k, n < 128 ^ (k + 1) → (numL n).length ≤ k + 1 := by
  induction n using numL.induct with
  | case1 n h => intro k _; rw [numL_small h]; simp
  | case2 n h ih =>
    intro k hk
    rw [numL_big (by omega)]
    cases k with
    | zero => simp at hk; omega
    | succ k =>
      have := ih k (by rw [Nat.pow_succ] at hk; exact Nat.div_lt_of_lt_mul (by rw [Nat.mul_comm]; exact hk))
      simp; omega
theorem numL_nine {n : Nat} (h : n < 4611686018427387904) : (numL n).length ≤ 9 := numL_len n 8 (by omega)
theorem numL_mono {a b : Nat} (h : a ≤ b) : (numL a).length ≤ (numL b).length := by
  induction a using numL.induct generalizing b with
  | case1 a h1 => rw [numL_small h1]; exact numL_pos b
  | case2 a h1 ih =>
    rw [numL_big (by omega), numL_big (show 128 ≤ b by omega)]
    have := ih (b := b / 128) (by omega)
    simp; omega
theorem numL_inj {a b : Nat} (h : numL a = numL b) : a = b := by
  induction a using numL.induct generalizing b with
  | case1 a h1 =>
    rw [numL_small h1] at h
    by_cases h2 : b < 128
    · rw [numL_small h2] at h; simpa using h
    · rw [numL_big (by omega)] at h
      have := numL_pos (b / 128)
      simp at h
      omega
  | case2 a h1 ih =>
    rw [numL_big (by omega)] at h
    by_cases h2 : b < 128
    · rw [numL_small h2] at h
      have := numL_pos (a / 128)
      simp at h
      omega
    · rw [numL_big (show 128 ≤ b by omega)] at h
      simp only [List.cons.injEq] at h
      have := ih h.2
      omega

/-- A number is read: behind k bytes that said n: the number, the error, what is left. (1 is no error of it.) -/
def rdN (limit : Int) : List Nat → Nat → Nat → Nat × Nat × List Nat
  | [], k, _ => if 9 ≤ k then (0, 2, []) else (0, 3, [])
  | x :: B, k, n => if 9 ≤ k then (0, 2, x :: B)
    else if 128 ≤ x then rdN limit B (k + 1) (n + (x - 128) * 128 ^ k)
    else if (0 < k ∧ x = 0) ∨ 4611686018427387904 ≤ n + x * 128 ^ k then (0, 2, x :: B)
    else if limit < ((n + x * 128 ^ k : Nat) : Int) then (0, 4, x :: B)
    else (n + x * 128 ^ k, 0, B)
def rdNum (limit : Int) (k n : Nat) (B : List Nat) : Nat × Nat × List Nat := rdN limit B k n
theorem rdNum_nine (limit : Int) {k : Nat} (h : 9 ≤ k) (n : Nat) (B : List Nat) : rdNum limit k n B = (0, 2, B) := by
  unfold rdNum
  cases B <;> rw [rdN, if_pos h]
theorem rdNum_nil (limit : Int) {k : Nat} (h : k < 9) (n : Nat) : rdNum limit k n [] = (0, 3, []) := by unfold rdNum; rw [rdN, if_neg (by omega)]
theorem rdNum_more (limit : Int) {k : Nat} (h : k < 9) (n : Nat) {x : Nat} (hx : 128 ≤ x) (B : List Nat) : rdNum limit k n (x :: B) = rdNum limit (k + 1) (n + (x - 128) * 128 ^ k) B := by
  unfold rdNum; rw [rdN, if_neg (by omega), if_pos hx]
theorem rdNum_last (limit : Int) {k : Nat} (h : k < 9) (n : Nat) {x : Nat} (hx : x < 128) (B : List Nat) : rdNum limit k n (x :: B) =
    if (0 < k ∧ x = 0) ∨ 4611686018427387904 ≤ n + x * 128 ^ k then (0, 2, x :: B) else if limit < ((n + x * 128 ^ k : Nat) : Int) then (0, 4, x :: B) else (n + x * 128 ^ k, 0, B) := by
  unfold rdNum; rw [rdN, if_neg (by omega), if_neg (by omega)]
/-- What was written is read. -/
theorem rdNum_back (limit : Int) (a : Nat) : ∀ (k n : Nat) (B : List Nat), n + a * 128 ^ k < 4611686018427387904 → ((n + a * 128 ^ k : Nat) : Int) ≤ limit → k + (numL a).length ≤ 9 → (0 < k → 0 < a) → rdNum limit k n (numL a ++ B) = (n + a * 128 ^ k, 0, B) := by
  induction a using numL.induct with
  | case1 a h =>
    intro k n B h1 h2 h3 h4
    rw [numL_small h] at h3 ⊢
    rw [List.singleton_append, rdNum_last limit (by simp at h3; omega) n h, if_neg (by rintro (⟨h5, h6⟩ | h5); have := h4 h5; omega; omega), if_neg (by omega)]
  | case2 a h ih =>
    intro k n B h1 h2 h3 h4
    rw [numL_big (by omega)] at h3 ⊢
    have e : n + (a % 128 + 128 - 128) * 128 ^ k + a / 128 * 128 ^ (k + 1) = n + a * 128 ^ k := by
      have h5 : a * 128 ^ k = (a % 128 + 128 * (a / 128)) * 128 ^ k := by rw [Nat.mod_add_div]
      rw [h5, Nat.pow_succ, Nat.add_sub_cancel, Nat.add_mul, Nat.add_assoc, Nat.mul_comm 128 (a / 128), Nat.mul_assoc, Nat.mul_comm 128 (128 ^ k)]
    rw [List.cons_append, rdNum_more limit (by simp at h3; omega) n (by omega), ih (k + 1) _ B (by rw [e]; exact h1) (by rw [e]; exact h2) (by simp at h3; omega) (by omega), e]
/-- What is read is what is written so. -/
theorem rdNum_once (limit : Int) : ∀ (B : List Nat) (k n v : Nat) (R : List Nat), (∀ x ∈ B, x ≤ 255) → rdNum limit k n B = (v, 0, R) → ∃ a, v = n + a * 128 ^ k ∧ B = numL a ++ R ∧ v < 4611686018427387904 ∧ (v : Int) ≤ limit ∧ (0 < k → 0 < a)
  | [], k, n, v, R, _, h => by
    by_cases hk : 9 ≤ k
    · rw [rdNum_nine limit hk] at h; simp at h
    · rw [rdNum_nil limit (by omega)] at h; simp at h
  | x :: B, k, n, v, R, hb, h => by
    have hx255 := hb x (List.mem_cons_self ..)
    by_cases hk : 9 ≤ k
    · rw [rdNum_nine limit hk] at h; simp at h
    · by_cases hx : 128 ≤ x
      · rw [rdNum_more limit (by omega) n hx] at h
        obtain ⟨a, h1, h2, h3, h4, h5⟩ := rdNum_once limit B _ _ v R (fun y hy => hb y (List.mem_cons_of_mem _ hy)) h
        have ha := h5 (by omega)
        refine ⟨x - 128 + a * 128, ?_, ?_, h3, h4, fun _ => by omega⟩
        · rw [h1, Nat.pow_succ, Nat.add_mul, Nat.add_assoc, Nat.mul_assoc a 128, Nat.mul_comm 128 (128 ^ k)]
        · rw [numL_big (by omega), h2, show (x - 128 + a * 128) / 128 = a by omega, show (x - 128 + a * 128) % 128 + 128 = x by omega]; rfl
      · rw [rdNum_last limit (by omega) n (by omega)] at h
        split at h
        · simp at h
        · split at h
          · simp at h
          · rename_i h1 h2
            simp only [Prod.mk.injEq, true_and] at h
            obtain ⟨rfl, rfl⟩ := h
            exact ⟨x, rfl, by rw [numL_small (by omega)]; rfl, by omega, by omega, fun hk0 => by
              rcases Nat.eq_zero_or_pos x with h3 | h3
              · exact absurd (.inl ⟨hk0, h3⟩) h1
              · exact h3⟩
end Go.Proofs.Ytffenfhbiapefaa
