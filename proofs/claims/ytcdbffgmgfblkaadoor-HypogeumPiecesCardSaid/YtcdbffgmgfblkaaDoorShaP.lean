/- Plain theory of chapter 01: SHA-256 over rows of bytes; HMAC; no program in sight. -/
import Derived.Test.YtcdbffgmgfblkaaDoorShaW
namespace Go.Proofs.YtcdbffgmgfblkaaDoor
set_option linter.unusedVariables false
set_option linter.unusedSimpArgs false

abbrev Wd := BitVec 32
def sg0 (x : Wd) : Wd := rotr x 7 ^^^ rotr x 18 ^^^ x >>> 3
def sg1 (x : Wd) : Wd := rotr x 17 ^^^ rotr x 19 ^^^ x >>> 10
def bs0 (x : Wd) : Wd := rotr x 2 ^^^ rotr x 13 ^^^ rotr x 22
def bs1 (x : Wd) : Wd := rotr x 6 ^^^ rotr x 11 ^^^ rotr x 25
def chz (e f g : Wd) : Wd := g ^^^ (e &&& (f ^^^ g))
def mjz (a b c : Wd) : Wd := (a &&& b) ||| (c &&& (a ||| b))
/-- The document's forms. -/
theorem chz_doc (e f g : Wd) : (e &&& f) ^^^ (~~~e &&& g) = chz e f g := by
  unfold chz
  apply BitVec.eq_of_getLsbD_eq
  intro i hi
  simp only [BitVec.getLsbD_xor, BitVec.getLsbD_and, BitVec.getLsbD_not, hi, decide_true, Bool.true_and]
  cases e.getLsbD i <;> cases f.getLsbD i <;> cases g.getLsbD i <;> rfl
theorem mjz_doc (a b c : Wd) : (a &&& b) ^^^ (a &&& c) ^^^ (b &&& c) = mjz a b c := by
  unfold mjz
  apply BitVec.eq_of_getLsbD_eq
  intro i hi
  simp only [BitVec.getLsbD_xor, BitVec.getLsbD_and, BitVec.getLsbD_or]
  cases a.getLsbD i <;> cases b.getLsbD i <;> cases c.getLsbD i <;> rfl
/-- A word of four bytes. -/
def wd (x0 x1 x2 x3 : Nat) : Wd := BitVec.ofNat 32 (x0 * 16777216 + x1 * 65536 + x2 * 256 + x3)
def by32 (x : Nat) : Wd := BitVec.ofNat 32 x
theorem by32_toNat {x : Nat} (h : x ≤ 255) : (by32 x).toNat = x := by unfold by32; rw [BitVec.toNat_ofNat]; exact Nat.mod_eq_of_lt (by omega)
theorem by32_shl {x k : Nat} (h : x ≤ 255) (hk : k ≤ 24) : (by32 x <<< k).toNat = x * 2 ^ k := by
  rw [BitVec.toNat_shiftLeft, by32_toNat h, Nat.shiftLeft_eq]
  have h1 : x * 2 ^ k ≤ 255 * 2 ^ 24 := Nat.mul_le_mul h (Nat.pow_le_pow_right (by omega) hk)
  exact Nat.mod_eq_of_lt (by omega)
theorem wd_toNat {x0 x1 x2 x3 : Nat} (h0 : x0 ≤ 255) (h1 : x1 ≤ 255) (h2 : x2 ≤ 255) (h3 : x3 ≤ 255) : (wd x0 x1 x2 x3).toNat = x0 * 16777216 + x1 * 65536 + x2 * 256 + x3 := by
  unfold wd; rw [BitVec.toNat_ofNat]; exact Nat.mod_eq_of_lt (by omega)
theorem wd_add {x0 x1 x2 x3 : Nat} (h0 : x0 ≤ 255) (h1 : x1 ≤ 255) (h2 : x2 ≤ 255) (h3 : x3 ≤ 255) : by32 x0 <<< 24 + by32 x1 <<< 16 + by32 x2 <<< 8 + by32 x3 = wd x0 x1 x2 x3 := by
  apply BitVec.eq_of_toNat_eq
  rw [wd_toNat h0 h1 h2 h3, BitVec.toNat_add, BitVec.toNat_add, BitVec.toNat_add, by32_shl h0 (by omega), by32_shl h1 (by omega), by32_shl h2 (by omega), by32_toNat h3]
  omega
theorem nat_or_add {a b k : Nat} (h : b < 2 ^ k) : a * 2 ^ k ||| b = a * 2 ^ k + b := by
  rw [← Nat.shiftLeft_eq, Nat.shiftLeft_add_eq_or_of_lt h]
theorem wd_or {x0 x1 x2 x3 : Nat} (h0 : x0 ≤ 255) (h1 : x1 ≤ 255) (h2 : x2 ≤ 255) (h3 : x3 ≤ 255) : by32 x0 <<< 24 ||| by32 x1 <<< 16 ||| by32 x2 <<< 8 ||| by32 x3 = wd x0 x1 x2 x3 := by
  apply BitVec.eq_of_toNat_eq
  rw [wd_toNat h0 h1 h2 h3, BitVec.toNat_or, BitVec.toNat_or, BitVec.toNat_or, by32_shl h0 (by omega), by32_shl h1 (by omega), by32_shl h2 (by omega), by32_toNat h3]
  rw [nat_or_add (a := x0) (b := x1 * 2 ^ 16) (k := 24) (by omega)]
  rw [show x0 * 2 ^ 24 + x1 * 2 ^ 16 = (x0 * 256 + x1) * 2 ^ 16 by omega, nat_or_add (b := x2 * 2 ^ 8) (k := 16) (by omega)]
  rw [show (x0 * 256 + x1) * 2 ^ 16 + x2 * 2 ^ 8 = (x0 * 65536 + x1 * 256 + x2) * 2 ^ 8 by omega, nat_or_add (b := x3) (k := 8) (by omega)]
  first | done | omega
theorem u32v_by {x : Nat} (h : x ≤ 255) : IntKind.u32.wrap (x : Int) = u32v (by32 x) := by
  rw [wrap32_nat, Nat.mod_eq_of_lt (by omega)]; unfold u32v; rw [by32_toNat h]
theorem u32v_by' {x : Nat} (h : x ≤ 255) : (x : Int) = u32v (by32 x) := by unfold u32v; rw [by32_toNat h]
theorem u32_shlw (n : Nat) (z : Int) (hz : z = 2 ^ n) (x : Wd) : IntKind.u32.wrap (u32v x * z) = u32v (x <<< n) := by subst hz; exact u32_shl x n
def wordAt (b : List Nat) (i : Nat) : Wd := wd (b.getD (4 * i) 0) (b.getD (4 * i + 1) 0) (b.getD (4 * i + 2) 0) (b.getD (4 * i + 3) 0)
/-- A word more. -/
def extW (b : List Nat) (l : List Wd) (k : Nat) : Wd := if k < 16 then wordAt b k else l.getD (k - 16) 0 + l.getD (k - 7) 0 + sg0 (l.getD (k - 15) 0) + sg1 (l.getD (k - 2) 0)
/-- The words of a block: the first k. -/
def wl (b : List Nat) : Nat → List Wd
  | 0 => []
  | k + 1 => wl b k ++ [extW b (wl b k) k]
theorem wl_len (b : List Nat) (k : Nat) : (wl b k).length = k := by
  induction k with
  | zero => rfl
  | succ k ih => rw [wl, List.length_append, ih]; rfl
def K256 : List Wd := [0x428a2f98, 0x71374491, 0xb5c0fbcf, 0xe9b5dba5, 0x3956c25b, 0x59f111f1, 0x923f82a4, 0xab1c5ed5,
  0xd807aa98, 0x12835b01, 0x243185be, 0x550c7dc3, 0x72be5d74, 0x80deb1fe, 0x9bdc06a7, 0xc19bf174,
  0xe49b69c1, 0xefbe4786, 0x0fc19dc6, 0x240ca1cc, 0x2de92c6f, 0x4a7484aa, 0x5cb0a9dc, 0x76f988da,
  0x983e5152, 0xa831c66d, 0xb00327c8, 0xbf597fc7, 0xc6e00bf3, 0xd5a79147, 0x06ca6351, 0x14292967,
  0x27b70a85, 0x2e1b2138, 0x4d2c6dfc, 0x53380d13, 0x650a7354, 0x766a0abb, 0x81c2c92e, 0x92722c85,
  0xa2bfe8a1, 0xa81a664b, 0xc24b8b70, 0xc76c51a3, 0xd192e819, 0xd6990624, 0xf40e3585, 0x106aa070,
  0x19a4c116, 0x1e376c08, 0x2748774c, 0x34b0bcb5, 0x391c0cb3, 0x4ed8aa4a, 0x5b9cca4f, 0x682e6ff3,
  0x748f82ee, 0x78a5636f, 0x84c87814, 0x8cc70208, 0x90befffa, 0xa4506ceb, 0xbef9a3f7, 0xc67178f2]
theorem K256_len : K256.length = 64 := rfl
def H256 : List Wd := [0x6a09e667, 0xbb67ae85, 0x3c6ef372, 0xa54ff53a, 0x510e527f, 0x9b05688c, 0x1f83d9ab, 0x5be0cd19]
/-- The register in a round. -/
structure V8 where
  a : Wd
  b : Wd
  c : Wd
  d : Wd
  e : Wd
  f : Wd
  g : Wd
  h : Wd
def V8.l (v : V8) : List Wd := [v.a, v.b, v.c, v.d, v.e, v.f, v.g, v.h]
def t1 (v : V8) (k x : Wd) : Wd := v.h + bs1 v.e + chz v.e v.f v.g + k + x
def rnd (v : V8) (k x : Wd) : V8 := ⟨t1 v k x + (bs0 v.a + mjz v.a v.b v.c), v.a, v.b, v.c, v.d + t1 v k x, v.e, v.f, v.g⟩
/-- Behind k rounds. -/
def rnds (v : V8) (ws : List Wd) : Nat → V8
  | 0 => v
  | k + 1 => rnd (rnds v ws k) (K256.getD k 0) (ws.getD k 0)
def V8.add (v u : V8) : V8 := ⟨v.a + u.a, v.b + u.b, v.c + u.c, v.d + u.d, v.e + u.e, v.f + u.f, v.g + u.g, v.h + u.h⟩
/-- A register behind a block. -/
def foldB (r : V8) (b : List Nat) : V8 := r.add (rnds r (wl b 64) 64)
def h256 : V8 := ⟨0x6a09e667, 0xbb67ae85, 0x3c6ef372, 0xa54ff53a, 0x510e527f, 0x9b05688c, 0x1f83d9ab, 0x5be0cd19⟩
/-- A byte more: the register, and what waits. -/
def feed (s : V8 × List Nat) (x : Nat) : V8 × List Nat := if s.2.length = 63 then (foldB s.1 (s.2 ++ [x]), []) else (s.1, s.2 ++ [x])
def feeds (L : List Nat) : V8 × List Nat := L.foldl feed (h256, [])
/-- How many noughts. -/
def noughts (n : Nat) : Nat := (119 - n % 64) % 64
def lenB (n : Nat) : List Nat := [n / 2 ^ 56 % 256, n / 2 ^ 48 % 256, n / 2 ^ 40 % 256, n / 2 ^ 32 % 256, n / 2 ^ 24 % 256, n / 2 ^ 16 % 256, n / 2 ^ 8 % 256, n % 256]
def padded (L : List Nat) : List Nat := L ++ [128] ++ List.replicate (noughts L.length) 0 ++ lenB (8 * L.length)
def outW (x : Wd) : List Nat := [(x >>> 24).toNat % 256, (x >>> 16).toNat % 256, (x >>> 8).toNat % 256, x.toNat % 256]
def outV (v : V8) : List Nat := v.l.flatMap outW
/-- SHA-256. -/
def sha (L : List Nat) : List Nat := outV (feeds (padded L)).1
theorem sha_abc : sha [97, 98, 99] = [186, 120, 22, 191, 143, 1, 207, 234, 65, 65, 64, 222, 93, 174, 34, 35, 176, 3, 97, 163, 150, 23, 122, 156, 180, 16, 255, 97, 242, 0, 21, 173] := by decide +kernel
end Go.Proofs.YtcdbffgmgfblkaaDoor
