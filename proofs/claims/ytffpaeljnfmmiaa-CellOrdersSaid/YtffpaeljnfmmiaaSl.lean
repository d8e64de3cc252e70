/- Slicing told: where a part of a slice lies. -/
import Derived.Test.YtffpaeljnfmmiaaAgg
import Derived.Laws.Cover1
namespace Go.Proofs.Ytffpaeljnfmmiaa
set_option linter.unusedVariables false
set_option linter.unusedSimpArgs false
open Go.RowKit
def cutA (A : Option Addr) (c l s : Nat) : Option Addr := if c = l then A else A.map (·.add (l * s))
theorem cutA_zero (A : Option Addr) (c s : Nat) : cutA A c 0 s = A := by
  unfold cutA
  split
  · rfl
  · rw [Nat.zero_mul]
    cases A with
    | none => rfl
    | some x => rfl
theorem cutA_none (c l s : Nat) : cutA none c l s = none := by unfold cutA; split <;> rfl
theorem cutA_none_iff {A : Option Addr} {c l s : Nat} : cutA A c l s = none ↔ A = none := by unfold cutA; split <;> simp
theorem SeesP.cut {w : World} {ok : Nat → Prop} {A : Option Addr} {xs : List Value} {c l s : Nat} (h : SeesP w ok A xs) (hc : xs.length ≤ c * s) : SeesP w ok (cutA A c l s) (xs.drop (l * s)) := fun hn => by
  have hlen : l * s < xs.length := by
    rcases Nat.lt_or_ge (l * s) xs.length with h | h
    · exact h
    · exact absurd (List.drop_of_length_le h) hn
  obtain ⟨b, o, rfl, hb, hcl⟩ := h (by intro e; rw [e] at hlen; simp at hlen)
  have hne : c ≠ l := by rintro rfl; omega
  refine ⟨b, o + l * s, ?_, hb, fun j u hu => ?_⟩
  · unfold cutA
    rw [if_neg hne]
    simp [Addr.add]
  · rw [List.getElem?_drop] at hu
    have := hcl _ _ hu
    rw [show o + l * s + j = o + (l * s + j) by omega]
    exact this
theorem size_run {P : Program} {t : TypeId} {i : TypeInfo} (h : P.info? t = some i) (w : World) : (sizeOf t).run P w = .ok i.size w := by
  simp [sizeOf, typeInfo, h]

section
variable {P : Program} {w : World} {ops : Array Oper} {rest : List Oper} {o : Oper} {a : Act} {K : Exit → Act → World → Prop}
theorem wpList_slice_hi (hgd : o.guard = none) (t : TypeId) (x hi : Operand) (ho : o.op = .slice t x none (some hi) none) (e : TypeId) (ht : P.underlying t = some (.slice e)) (i : TypeInfo) (hi0 : P.info? e = some i)
    (A : Option Addr) (n c : Nat) (hx : a.eval x = .slice A n c) (k : IntKind) (h : Nat) (hh : a.eval hi = .int k (h : Int)) (hc : h ≤ c) (hw : wpList P ops K rest (a.put o.dst (.slice A h c)) w) : wpList P ops K (o :: rest) a w := by
  have he : P.elem t = e := by simp [Program.elem, ht]
  refine wpList_val (w' := w) (v := .slice A h c) hgd ?_ hw
  have ht' : P.underlying t = some (.slice (P.elem t)) := by rw [he]; exact ht
  have h1 : (Instr.sliceAt t (.slice A n c) none (some (.int k (h : Int))) none).run P w = .ok (.slice A h c) w := by
    rw [run_sliceAt_slice w t _ _ _ _ ht', run_slice_h w t A n c ht' k h (by omega) (by omega), he, size_run hi0]
    have := cutA_zero A c i.size
    simp only [Result.andThen, sliced]
    unfold cutA at this
    rw [this]; simp
  unfold execOp
  simp only [ho, hx, hh, Option.map, Sem.run_bind, h1, Result.andThen_ok, Sem.run_pure]
theorem wpList_slice_lo (hgd : o.guard = none) (t : TypeId) (x lo : Operand) (ho : o.op = .slice t x (some lo) none none) (e : TypeId) (ht : P.underlying t = some (.slice e)) (i : TypeInfo) (hi0 : P.info? e = some i) (s : Nat) (hs : i.size = s)
    (A : Option Addr) (n c : Nat) (hx : a.eval x = .slice A n c) (k : IntKind) (l : Nat) (hl : a.eval lo = .int k (l : Int)) (hc : l ≤ n) (hw : wpList P ops K rest (a.put o.dst (.slice (cutA A c l s) (n - l) (c - l))) w) : wpList P ops K (o :: rest) a w := by
  have he : P.elem t = e := by simp [Program.elem, ht]
  refine wpList_val (w' := w) (v := .slice (cutA A c l s) (n - l) (c - l)) hgd ?_ hw
  have ht' : P.underlying t = some (.slice (P.elem t)) := by rw [he]; exact ht
  have h1 : (Instr.sliceAt t (.slice A n c) (some (.int k (l : Int))) none none).run P w = .ok (.slice (cutA A c l s) (n - l) (c - l)) w := by
    rw [run_sliceAt_slice w t _ _ _ _ ht', run_slice_l w t A n c ht' k l (by omega) (by omega), he, size_run hi0, hs]
    simp only [Result.andThen, sliced, Int.toNat_natCast]
    rfl
  unfold execOp
  simp only [ho, hx, hl, Option.map, Sem.run_bind, h1, Result.andThen_ok, Sem.run_pure]
theorem wpList_slice_lh (hgd : o.guard = none) (t : TypeId) (x lo hi : Operand) (ho : o.op = .slice t x (some lo) (some hi) none) (e : TypeId) (ht : P.underlying t = some (.slice e)) (i : TypeInfo) (hi0 : P.info? e = some i) (s : Nat) (hs : i.size = s)
    (A : Option Addr) (n c : Nat) (hx : a.eval x = .slice A n c) (k k' : IntKind) (l h : Nat) (hl : a.eval lo = .int k (l : Int)) (hh : a.eval hi = .int k' (h : Int)) (hlh : l ≤ h) (hc : h ≤ c) (hw : wpList P ops K rest (a.put o.dst (.slice (cutA A c l s) (h - l) (c - l))) w) : wpList P ops K (o :: rest) a w := by
  have he : P.elem t = e := by simp [Program.elem, ht]
  refine wpList_val (w' := w) (v := .slice (cutA A c l s) (h - l) (c - l)) hgd ?_ hw
  have ht' : P.underlying t = some (.slice (P.elem t)) := by rw [he]; exact ht
  have h1 : (Instr.sliceAt t (.slice A n c) (some (.int k (l : Int))) (some (.int k' (h : Int))) none).run P w = .ok (.slice (cutA A c l s) (h - l) (c - l)) w := by
    rw [run_sliceAt_slice w t _ _ _ _ ht', run_slice_lh w t A n c ht' k k' l h (by omega) (by omega) (by omega), he, size_run hi0, hs]
    simp only [Result.andThen, sliced, Int.toNat_natCast]
    rfl
  unfold execOp
  simp only [ho, hx, hl, hh, Option.map, Sem.run_bind, h1, Result.andThen_ok, Sem.run_pure]
end
section
variable {P : Program} {w : World} {ops : Array Oper} {rest : List Oper} {o : Oper} {a : Act} {K : Exit → Act → World → Prop}
theorem wpList_min3 (hgd : o.guard = none) (p q r : Operand) (ts : Array TypeId) (ho : o.op = .call { callee := .builtin .min, args := #[p, q, r], argTypes := ts }) (k : IntKind) (x y z m : Nat) (hp : a.eval p = .int k (x : Int)) (hq : a.eval q = .int k (y : Int)) (hr : a.eval r = .int k (z : Int)) (hm : m = min (min x y) z)
    (hw : wpList P ops K rest (a.put o.dst (.int k (m : Int))) w) : wpList P ops K (o :: rest) a w := by
  refine wpList_val (w' := w) (v := .int k (m : Int)) hgd ?_ hw
  have e : (if (z : Int) < (if (y : Int) < (x : Int) then (y : Int) else (x : Int)) then (z : Int) else (if (y : Int) < (x : Int) then (y : Int) else (x : Int))) = (m : Int) := by split <;> split <;> omega
  have h := fun t => run_min_int3 (P := P) w ts t k k k x y z
  simp only [e] at h
  simp [execOp, ho, resolve, invoke, builtin, hp, hq, hr, h, Result.andThen]
theorem wpList_max2 (hgd : o.guard = none) (p q : Operand) (ts : Array TypeId) (ho : o.op = .call { callee := .builtin .max, args := #[p, q], argTypes := ts }) (k : IntKind) (x y m : Int) (hp : a.eval p = .int k x) (hq : a.eval q = .int k y) (hm : m = max x y)
    (hw : wpList P ops K rest (a.put o.dst (.int k m)) w) : wpList P ops K (o :: rest) a w := by
  refine wpList_val (w' := w) (v := .int k m) hgd ?_ hw
  have e : (if x < y then y else x) = m := by split <;> omega
  have h := fun t => run_max_int2 (P := P) w ts t k k x y
  simp only [gt_iff_lt, e] at h
  simp [execOp, ho, resolve, invoke, builtin, hp, hq, h, Result.andThen]
theorem wpList_min2 (hgd : o.guard = none) (p q : Operand) (ts : Array TypeId) (ho : o.op = .call { callee := .builtin .min, args := #[p, q], argTypes := ts }) (k : IntKind) (x y m : Nat) (hp : a.eval p = .int k (x : Int)) (hq : a.eval q = .int k (y : Int)) (hm : m = min x y)
    (hw : wpList P ops K rest (a.put o.dst (.int k (m : Int))) w) : wpList P ops K (o :: rest) a w := by
  refine wpList_val (w' := w) (v := .int k (m : Int)) hgd ?_ hw
  have e : (if (y : Int) < (x : Int) then (y : Int) else (x : Int)) = (m : Int) := by split <;> omega
  have h := fun t => run_min_int2 (P := P) w ts t k k x y
  simp only [e] at h
  simp [execOp, ho, resolve, invoke, builtin, hp, hq, h, Result.andThen]
end
end Go.Proofs.Ytffpaeljnfmmiaa
