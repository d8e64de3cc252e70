/- Words of 32 bits. -/
import Derived.Test.YtcdbffgmgfblkaaDoorProg
import Derived.Test.YtcdbffgmgfblkaaDoorAgg
import Derived.Test.YtcdbffgmgfblkaaDoorStep
namespace Go.Proofs.YtcdbffgmgfblkaaDoor
set_option linter.unusedVariables false
set_option linter.unusedSimpArgs false
open Go.RowKit

/-- A word's number. -/
def u32v (x : BitVec 32) : Int := (x.toNat : Int)
def W32 (x : BitVec 32) : Value := .int .u32 (u32v x)
theorem u32v_lt (x : BitVec 32) : 0 ≤ u32v x ∧ u32v x < 4294967296 := by have := x.isLt; unfold u32v; omega
theorem wrap32_nat (n : Nat) : IntKind.u32.wrap (n : Int) = ((n % 4294967296 : Nat) : Int) := by simp [IntKind.wrap, IntKind.bits, IntKind.signed]
theorem u32_add (x y : BitVec 32) : IntKind.u32.wrap (u32v x + u32v y) = u32v (x + y) := by
  unfold u32v
  rw [BitVec.toNat_add, show ((x.toNat : Int) + (y.toNat : Int)) = ((x.toNat + y.toNat : Nat) : Int) by omega, wrap32_nat]
theorem ofInt_u32v (x : BitVec 32) : BitVec.ofInt 32 (u32v x) = x := by
  unfold u32v
  rw [BitVec.ofInt_natCast]; exact BitVec.ofNat_toNat .. |>.trans (by simp)
theorem wrap_toNat (x : BitVec 32) : IntKind.u32.wrap (x.toNat : Int) = u32v x := by
  have := x.isLt
  rw [wrap32_nat, Nat.mod_eq_of_lt (by omega)]; rfl
theorem u32_xor (x y : BitVec 32) : bits .xor .u32 (u32v x) (u32v y) = u32v (x ^^^ y) := by
  show IntKind.u32.wrap ((BitVec.ofInt 32 (u32v x) ^^^ BitVec.ofInt 32 (u32v y)).toNat : Int) = _
  rw [ofInt_u32v, ofInt_u32v, wrap_toNat]
theorem u32_and (x y : BitVec 32) : bits .and .u32 (u32v x) (u32v y) = u32v (x &&& y) := by
  show IntKind.u32.wrap ((BitVec.ofInt 32 (u32v x) &&& BitVec.ofInt 32 (u32v y)).toNat : Int) = _
  rw [ofInt_u32v, ofInt_u32v, wrap_toNat]
theorem u32_or (x y : BitVec 32) : bits .or .u32 (u32v x) (u32v y) = u32v (x ||| y) := by
  show IntKind.u32.wrap ((BitVec.ofInt 32 (u32v x) ||| BitVec.ofInt 32 (u32v y)).toNat : Int) = _
  rw [ofInt_u32v, ofInt_u32v, wrap_toNat]
theorem u32_shl (x : BitVec 32) (n : Nat) : IntKind.u32.wrap (u32v x * 2 ^ n) = u32v (x <<< n) := by
  unfold u32v
  rw [BitVec.toNat_shiftLeft, Nat.shiftLeft_eq, show ((x.toNat : Int) * 2 ^ n) = ((x.toNat * 2 ^ n : Nat) : Int) by push_cast; rfl, wrap32_nat]
theorem u32_shr (x : BitVec 32) (n : Nat) : u32v x / 2 ^ n = u32v (x >>> n) := by
  unfold u32v
  rw [BitVec.toNat_ushiftRight, Nat.shiftRight_eq_div_pow]
  push_cast; rfl
/-- Turned to the right. -/
def rotr (x : BitVec 32) (n : Nat) : BitVec 32 := x >>> n ||| x <<< (32 - n)
theorem u32_addm (x y : BitVec 32) : (u32v x + u32v y) % 4294967296 = u32v (x + y) := by
  have h := u32_add x y
  have h2 : IntKind.u32.wrap (u32v x + u32v y) = (u32v x + u32v y) % 4294967296 := by simp [IntKind.wrap, IntKind.bits, IntKind.signed]
  rw [h2] at h; exact h
theorem u32_shlm (x : BitVec 32) (n : Nat) (z : Int) (hz : z = 2 ^ n) : u32v x * z % 4294967296 = u32v (x <<< n) := by
  subst hz
  have h := u32_shl x n
  have h2 : IntKind.u32.wrap (u32v x * 2 ^ n) = (u32v x * 2 ^ n) % 4294967296 := by simp [IntKind.wrap, IntKind.bits, IntKind.signed]
  rw [h2] at h; exact h
theorem u32_shrm (x : BitVec 32) (n : Nat) (z : Int) (hz : z = 2 ^ n) : u32v x / z = u32v (x >>> n) := by
  subst hz; exact u32_shr x n
theorem rotr_comm (x : BitVec 32) (n : Nat) : x <<< (32 - n) ||| x >>> n = rotr x n := by unfold rotr; exact BitVec.or_comm _ _

set_option maxHeartbeats 1000000 in
set_option maxRecDepth 100000 in
theorem rot7 (x : BitVec 32) (w : World) : Calls Tryd.prog 59 #[.int .u32 (u32v x), .int .i64 (-7)] w fun e w' => e = .returned (.int .u32 (u32v (rotr x 7))) ∧ w = w' := by
  have hs : bits .and .u64 (IntKind.u64.wrap (-7)) 31 = 25 := by kernel_rfl
  have h1 := u32_shlm x 25 33554432 (by decide)
  have h2 := u32_shrm x 7 128 (by decide)
  have h3 := u32_or (x <<< 25) (x >>> 7)
  have h4 : x <<< 25 ||| x >>> 7 = rotr x 7 := rotr_comm x 7
  rw [h4] at h3
  clear h4
  go_enter Tryd.func59, Tryd.ntmps59
  go_wp2
  go_ret
  exact ⟨rfl, rfl⟩

set_option maxHeartbeats 1000000 in
set_option maxRecDepth 100000 in
theorem rot18 (x : BitVec 32) (w : World) : Calls Tryd.prog 59 #[.int .u32 (u32v x), .int .i64 (-18)] w fun e w' => e = .returned (.int .u32 (u32v (rotr x 18))) ∧ w = w' := by
  have hs : bits .and .u64 (IntKind.u64.wrap (-18)) 31 = 14 := by kernel_rfl
  have h1 := u32_shlm x 14 16384 (by decide)
  have h2 := u32_shrm x 18 262144 (by decide)
  have h3 := u32_or (x <<< 14) (x >>> 18)
  have h4 : x <<< 14 ||| x >>> 18 = rotr x 18 := rotr_comm x 18
  rw [h4] at h3
  clear h4
  go_enter Tryd.func59, Tryd.ntmps59
  go_wp2
  go_ret
  exact ⟨rfl, rfl⟩

set_option maxHeartbeats 1000000 in
set_option maxRecDepth 100000 in
theorem rot17 (x : BitVec 32) (w : World) : Calls Tryd.prog 59 #[.int .u32 (u32v x), .int .i64 (-17)] w fun e w' => e = .returned (.int .u32 (u32v (rotr x 17))) ∧ w = w' := by
  have hs : bits .and .u64 (IntKind.u64.wrap (-17)) 31 = 15 := by kernel_rfl
  have h1 := u32_shlm x 15 32768 (by decide)
  have h2 := u32_shrm x 17 131072 (by decide)
  have h3 := u32_or (x <<< 15) (x >>> 17)
  have h4 : x <<< 15 ||| x >>> 17 = rotr x 17 := rotr_comm x 17
  rw [h4] at h3
  clear h4
  go_enter Tryd.func59, Tryd.ntmps59
  go_wp2
  go_ret
  exact ⟨rfl, rfl⟩

set_option maxHeartbeats 1000000 in
set_option maxRecDepth 100000 in
theorem rot19 (x : BitVec 32) (w : World) : Calls Tryd.prog 59 #[.int .u32 (u32v x), .int .i64 (-19)] w fun e w' => e = .returned (.int .u32 (u32v (rotr x 19))) ∧ w = w' := by
  have hs : bits .and .u64 (IntKind.u64.wrap (-19)) 31 = 13 := by kernel_rfl
  have h1 := u32_shlm x 13 8192 (by decide)
  have h2 := u32_shrm x 19 524288 (by decide)
  have h3 := u32_or (x <<< 13) (x >>> 19)
  have h4 : x <<< 13 ||| x >>> 19 = rotr x 19 := rotr_comm x 19
  rw [h4] at h3
  clear h4
  go_enter Tryd.func59, Tryd.ntmps59
  go_wp2
  go_ret
  exact ⟨rfl, rfl⟩

set_option maxHeartbeats 1000000 in
set_option maxRecDepth 100000 in
theorem rot6 (x : BitVec 32) (w : World) : Calls Tryd.prog 59 #[.int .u32 (u32v x), .int .i64 (-6)] w fun e w' => e = .returned (.int .u32 (u32v (rotr x 6))) ∧ w = w' := by
  have hs : bits .and .u64 (IntKind.u64.wrap (-6)) 31 = 26 := by kernel_rfl
  have h1 := u32_shlm x 26 67108864 (by decide)
  have h2 := u32_shrm x 6 64 (by decide)
  have h3 := u32_or (x <<< 26) (x >>> 6)
  have h4 : x <<< 26 ||| x >>> 6 = rotr x 6 := rotr_comm x 6
  rw [h4] at h3
  clear h4
  go_enter Tryd.func59, Tryd.ntmps59
  go_wp2
  go_ret
  exact ⟨rfl, rfl⟩

set_option maxHeartbeats 1000000 in
set_option maxRecDepth 100000 in
theorem rot11 (x : BitVec 32) (w : World) : Calls Tryd.prog 59 #[.int .u32 (u32v x), .int .i64 (-11)] w fun e w' => e = .returned (.int .u32 (u32v (rotr x 11))) ∧ w = w' := by
  have hs : bits .and .u64 (IntKind.u64.wrap (-11)) 31 = 21 := by kernel_rfl
  have h1 := u32_shlm x 21 2097152 (by decide)
  have h2 := u32_shrm x 11 2048 (by decide)
  have h3 := u32_or (x <<< 21) (x >>> 11)
  have h4 : x <<< 21 ||| x >>> 11 = rotr x 11 := rotr_comm x 11
  rw [h4] at h3
  clear h4
  go_enter Tryd.func59, Tryd.ntmps59
  go_wp2
  go_ret
  exact ⟨rfl, rfl⟩

set_option maxHeartbeats 1000000 in
set_option maxRecDepth 100000 in
theorem rot25 (x : BitVec 32) (w : World) : Calls Tryd.prog 59 #[.int .u32 (u32v x), .int .i64 (-25)] w fun e w' => e = .returned (.int .u32 (u32v (rotr x 25))) ∧ w = w' := by
  have hs : bits .and .u64 (IntKind.u64.wrap (-25)) 31 = 7 := by kernel_rfl
  have h1 := u32_shlm x 7 128 (by decide)
  have h2 := u32_shrm x 25 33554432 (by decide)
  have h3 := u32_or (x <<< 7) (x >>> 25)
  have h4 : x <<< 7 ||| x >>> 25 = rotr x 25 := rotr_comm x 25
  rw [h4] at h3
  clear h4
  go_enter Tryd.func59, Tryd.ntmps59
  go_wp2
  go_ret
  exact ⟨rfl, rfl⟩

set_option maxHeartbeats 1000000 in
set_option maxRecDepth 100000 in
theorem rot2 (x : BitVec 32) (w : World) : Calls Tryd.prog 59 #[.int .u32 (u32v x), .int .i64 (-2)] w fun e w' => e = .returned (.int .u32 (u32v (rotr x 2))) ∧ w = w' := by
  have hs : bits .and .u64 (IntKind.u64.wrap (-2)) 31 = 30 := by kernel_rfl
  have h1 := u32_shlm x 30 1073741824 (by decide)
  have h2 := u32_shrm x 2 4 (by decide)
  have h3 := u32_or (x <<< 30) (x >>> 2)
  have h4 : x <<< 30 ||| x >>> 2 = rotr x 2 := rotr_comm x 2
  rw [h4] at h3
  clear h4
  go_enter Tryd.func59, Tryd.ntmps59
  go_wp2
  go_ret
  exact ⟨rfl, rfl⟩

set_option maxHeartbeats 1000000 in
set_option maxRecDepth 100000 in
theorem rot13 (x : BitVec 32) (w : World) : Calls Tryd.prog 59 #[.int .u32 (u32v x), .int .i64 (-13)] w fun e w' => e = .returned (.int .u32 (u32v (rotr x 13))) ∧ w = w' := by
  have hs : bits .and .u64 (IntKind.u64.wrap (-13)) 31 = 19 := by kernel_rfl
  have h1 := u32_shlm x 19 524288 (by decide)
  have h2 := u32_shrm x 13 8192 (by decide)
  have h3 := u32_or (x <<< 19) (x >>> 13)
  have h4 : x <<< 19 ||| x >>> 13 = rotr x 13 := rotr_comm x 13
  rw [h4] at h3
  clear h4
  go_enter Tryd.func59, Tryd.ntmps59
  go_wp2
  go_ret
  exact ⟨rfl, rfl⟩

set_option maxHeartbeats 1000000 in
set_option maxRecDepth 100000 in
theorem rot22 (x : BitVec 32) (w : World) : Calls Tryd.prog 59 #[.int .u32 (u32v x), .int .i64 (-22)] w fun e w' => e = .returned (.int .u32 (u32v (rotr x 22))) ∧ w = w' := by
  have hs : bits .and .u64 (IntKind.u64.wrap (-22)) 31 = 10 := by kernel_rfl
  have h1 := u32_shlm x 10 1024 (by decide)
  have h2 := u32_shrm x 22 4194304 (by decide)
  have h3 := u32_or (x <<< 10) (x >>> 22)
  have h4 : x <<< 10 ||| x >>> 22 = rotr x 22 := rotr_comm x 22
  rw [h4] at h3
  clear h4
  go_enter Tryd.func59, Tryd.ntmps59
  go_wp2
  go_ret
  exact ⟨rfl, rfl⟩

/-- The turns that there are. -/
theorem rot_any (x : BitVec 32) (z : Int) (hz : z ∈ ([-7, -18, -17, -19, -6, -11, -25, -2, -13, -22] : List Int)) (w : World) : Calls Tryd.prog 59 #[.int .u32 (u32v x), .int .i64 z] w fun e w' => e = .returned (.int .u32 (u32v (rotr x (-z).toNat))) ∧ w = w' := by
  simp only [List.mem_cons, List.not_mem_nil, or_false] at hz
  rcases hz with rfl | rfl | rfl | rfl | rfl | rfl | rfl | rfl | rfl | rfl
  · exact rot7 x w
  · exact rot18 x w
  · exact rot17 x w
  · exact rot19 x w
  · exact rot6 x w
  · exact rot11 x w
  · exact rot25 x w
  · exact rot2 x w
  · exact rot13 x w
  · exact rot22 x w
theorem rotS7 (x : BitVec 32) (w : World) : Calls Tryd.prog 59 #[.int .u32 (u32v x), .int .i64 (-7)] w fun e w' => e = .returned (.int .u32 (u32v (rotr x 7))) ∧ w' = w := (rot7 x w).mono fun _ _ h => ⟨h.1, h.2.symm⟩
theorem rotS18 (x : BitVec 32) (w : World) : Calls Tryd.prog 59 #[.int .u32 (u32v x), .int .i64 (-18)] w fun e w' => e = .returned (.int .u32 (u32v (rotr x 18))) ∧ w' = w := (rot18 x w).mono fun _ _ h => ⟨h.1, h.2.symm⟩
theorem rotS17 (x : BitVec 32) (w : World) : Calls Tryd.prog 59 #[.int .u32 (u32v x), .int .i64 (-17)] w fun e w' => e = .returned (.int .u32 (u32v (rotr x 17))) ∧ w' = w := (rot17 x w).mono fun _ _ h => ⟨h.1, h.2.symm⟩
theorem rotS19 (x : BitVec 32) (w : World) : Calls Tryd.prog 59 #[.int .u32 (u32v x), .int .i64 (-19)] w fun e w' => e = .returned (.int .u32 (u32v (rotr x 19))) ∧ w' = w := (rot19 x w).mono fun _ _ h => ⟨h.1, h.2.symm⟩
theorem rotS6 (x : BitVec 32) (w : World) : Calls Tryd.prog 59 #[.int .u32 (u32v x), .int .i64 (-6)] w fun e w' => e = .returned (.int .u32 (u32v (rotr x 6))) ∧ w' = w := (rot6 x w).mono fun _ _ h => ⟨h.1, h.2.symm⟩
theorem rotS11 (x : BitVec 32) (w : World) : Calls Tryd.prog 59 #[.int .u32 (u32v x), .int .i64 (-11)] w fun e w' => e = .returned (.int .u32 (u32v (rotr x 11))) ∧ w' = w := (rot11 x w).mono fun _ _ h => ⟨h.1, h.2.symm⟩
theorem rotS25 (x : BitVec 32) (w : World) : Calls Tryd.prog 59 #[.int .u32 (u32v x), .int .i64 (-25)] w fun e w' => e = .returned (.int .u32 (u32v (rotr x 25))) ∧ w' = w := (rot25 x w).mono fun _ _ h => ⟨h.1, h.2.symm⟩
theorem rotS2 (x : BitVec 32) (w : World) : Calls Tryd.prog 59 #[.int .u32 (u32v x), .int .i64 (-2)] w fun e w' => e = .returned (.int .u32 (u32v (rotr x 2))) ∧ w' = w := (rot2 x w).mono fun _ _ h => ⟨h.1, h.2.symm⟩
theorem rotS13 (x : BitVec 32) (w : World) : Calls Tryd.prog 59 #[.int .u32 (u32v x), .int .i64 (-13)] w fun e w' => e = .returned (.int .u32 (u32v (rotr x 13))) ∧ w' = w := (rot13 x w).mono fun _ _ h => ⟨h.1, h.2.symm⟩
theorem rotS22 (x : BitVec 32) (w : World) : Calls Tryd.prog 59 #[.int .u32 (u32v x), .int .i64 (-22)] w fun e w' => e = .returned (.int .u32 (u32v (rotr x 22))) ∧ w' = w := (rot22 x w).mono fun _ _ h => ⟨h.1, h.2.symm⟩
set_option maxHeartbeats 1000000 in
set_option maxRecDepth 100000 in
theorem right_ok (x : BitVec 32) (n : Nat) (h0 : 0 < n) (h32 : n < 32) (w : World) : Calls Tryd.prog 51 #[.int .u32 (u32v x), .int .i64 (n : Int)] w fun e w' => e = .returned (.int .u32 (u32v (rotr x n))) ∧ ∃ m, w' = w.drewN m := by
  have h1 := u32_shlm x (32 - n) (2 ^ (32 - n)) rfl
  have h2 := u32_shrm x n (2 ^ n) rfl
  have h3 := u32_or (x >>> n) (x <<< (32 - n))
  have h4 : x >>> n ||| x <<< (32 - n) = rotr x n := rfl
  rw [h4] at h3
  clear h4
  go_enter Tryd.func51, Tryd.ntmps51
  go_wp2
  go_quiet (fail)
  go_wp2
  go_ret
  exact ⟨rfl, _, rfl⟩
end Go.Proofs.YtcdbffgmgfblkaaDoor
