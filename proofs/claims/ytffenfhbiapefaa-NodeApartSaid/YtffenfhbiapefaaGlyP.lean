/- glyph's In over a row that is there; numbers that were read. -/
import Derived.Test.YtffenfhbiapefaaGlyH
import Derived.Test.YtffenfhbiapefaaGlyE
namespace Go.Proofs.Ytffenfhbiapefaa
set_option linter.unusedVariables false
set_option linter.unusedSimpArgs false
open Go.RowKit

theorem openZ (w : World) (k : Nat) (z : Int) (hz : z = (k : Int)) (hk : k ≤ 255) (A : Option Addr) (c m : Nat) (L : List Nat) (ok : Nat → Prop) (hm : L.length = m) (hs : SeesP w ok A (L.map B8)) (hok : ∀ b, ok b → b < w.heap.size) (hby : ∀ x ∈ L, x ≤ 255) (hlen : m ≤ 140737488355328) (hmc : m ≤ c) (hc : c ≤ 9223372036854775807) (hAc : A = none → c = 0) :
    Calls Try.prog 43 #[.int .u8 z, .slice A m c] w (InNew w (openRd k L)) := by
  subst hz; exact open_in k hk A c m L ok w hm hs hok hby hlen hmc hc hAc
theorem openRd_ok (k : Nat) (B : List Nat) : openRd k ([72, 89, k] ++ B) = (0, B) := by
  unfold openRd
  rw [if_pos (by rw [show min ([72, 89, k] ++ B).length 3 = 3 by simp]; rfl), if_neg (by simp)]; rfl
/-- A number that was read: it is written so. -/
theorem numRd_once {limit : Int} {B R : List Nat} {v : Nat} (hb : ∀ x ∈ B, x ≤ 255) (h : numRd limit (0, B) = (v, (0, R))) : B = numL v ++ R ∧ v < 4611686018427387904 ∧ (v : Int) ≤ limit := by
  unfold numRd at h
  rw [if_pos rfl] at h
  by_cases he : (rdNum limit 0 0 B).2.1 = 0
  · rw [if_pos he, Prod.mk.injEq, Prod.mk.injEq] at h
    obtain ⟨a, h1, h2, h3, h4, _⟩ := rdNum_once limit B 0 0 v R hb (by rw [← h.1, ← h.2.2]; exact Prod.ext rfl (Prod.ext he rfl))
    have : v = a := by omega
    subst this
    exact ⟨h2, h3, h4⟩
  · simp only [if_neg he, Prod.mk.injEq] at h
    exact absurd h.2.1 he
theorem numRd_err {limit : Int} {s t : Nat × List Nat} {v : Nat} (h : numRd limit s = (v, t)) (ht : t.1 ≠ 0) : v = 0 := by
  unfold numRd at h
  split at h
  · split at h
    · rw [Prod.mk.injEq] at h
      rw [← h.2] at ht
      exact absurd rfl ht
    · rw [Prod.mk.injEq] at h
      exact h.1.symm
  · rw [Prod.mk.injEq] at h
    exact h.1.symm

theorem own_max {w : World} {base : Nat} {e : TypeId} {n m c : Nat} {A : Option Addr} {xs : List Value} (h : w.ownsRow base e 1 (.slice A m c) n xs) : c ≤ 9223372036854775807 := by
  rcases h.2 with ⟨h1, h2⟩ | ⟨g, cap, cur, h1, _, _, _, h2, _⟩
  · injection h1 with _ h3 h4
    omega
  · injection h1 with _ h3 h4
    unfold maxLen at h2
    omega
/-- Open of bytes that an append made: what is written behind a head. -/
theorem open_own {w0 w : World} (k : Nat) (hk : k ≤ 255) (z : Int) (hz : z = (k : Int)) (A : Option Addr) (n c : Nat) (B : List Nat) (hn : B.length + 3 = n) (hB : ∀ x ∈ B, x ≤ 255) (hlen : n ≤ 140737488355328) (h : w.ownsRow w0.heap.size 5 1 (.slice A n c) n ([72, 89, k].map B8 ++ B.map B8)) :
    Calls Try.prog 43 #[.int .u8 z, .slice A n c] w (InNew w (0, B)) := by
  have h1 := openZ w k z hz hk A c n ([72, 89, k] ++ B) _ (by simp; omega) (by rw [List.map_append]; exact sees_own h) (fun b (hb : _ ∧ _) => hb.2) (fun x hx => by simp only [List.mem_append, List.mem_cons, List.not_mem_nil, or_false] at hx; rcases hx with hx | hx; omega; exact hB x hx) hlen (own_cap h).1 (own_max h) (own_nil h)
  rw [openRd_ok] at h1
  exact h1

theorem run_slice_lo {P : Program} (t : TypeId) (e : TypeId) (ht : P.underlying t = some (.slice e)) (i : TypeInfo) (hi0 : P.info? e = some i) (hs : i.size = 1) (g o n c l : Nat) (k : IntKind) (hl : l ≤ n) (hn : n ≤ c) (hc : c ≠ l) (w : World) :
    (Instr.sliceAt t (.slice (some ⟨g, o, none⟩) n c) (some (.int k (l : Int))) none none).run P w = .ok (.slice (some ⟨g, o + l, none⟩) (n - l) (c - l)) w := by
  have he : P.elem t = e := by simp [Program.elem, ht]
  have ht' : P.underlying t = some (.slice (P.elem t)) := by rw [he]; exact ht
  rw [run_sliceAt_slice w t _ _ _ _ ht', run_slice_l w t _ n c ht' k l (by omega) (by omega), he, size_run hi0, hs]
  simp only [Result.andThen, sliced, Int.toNat_natCast]
  rw [if_neg hc, Nat.mul_one]
  simp [Addr.add]
theorem cutA_some {g o c l : Nat} (h : c ≠ l) : cutA (some ⟨g, o, none⟩) c l 1 = some ⟨g, o + l, none⟩ := by
  unfold cutA; rw [if_neg h]; simp [Addr.add]
theorem bytesK {w0 w : World} {g c : Nat} {L : List Nat} (h : Hid (OutN w0 w g (0, L) c)) (hc : c ≤ 100000) : Calls Try.prog 35 #[.pointer (some ⟨g, 0, none⟩)] w fun e w' => ∃ A cp n, e = .returned (.tuple #[.slice A n cp, .int .i64 0]) ∧ Hid (L.length = n ∧ w'.ownsRow w0.heap.size 5 1 (.slice A n cp) n (L.map B8) ∧ Q w0 w' ∧ ∀ x ∈ L, x ≤ 255) := by
  refine (bytesIn h hc).mono ?_
  rintro e w' ⟨A, cp, rfl, h1⟩
  exact ⟨A, cp, L.length, rfl, rfl, h1.out.1, h1.out.2.1, h1.out.2.2⟩

end Go.Proofs.Ytffenfhbiapefaa
