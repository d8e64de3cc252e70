/- Strings: a row of bytes as a string; string(b) of a row that reads. -/
import Derived.Test.YtffenfhbiapefaaBts
import Derived.Laws.BytesArg
namespace Go.Proofs.Ytffenfhbiapefaa
set_option linter.unusedVariables false
set_option linter.unusedSimpArgs false
open Go.RowKit

/-- The string of these bytes. -/
def strB (l : List Nat) : ByteArray := ⟨(l.map UInt8.ofNat).toArray⟩
theorem strB_size (l : List Nat) : (strB l).size = l.length := by simp [strB, ByteArray.size]
theorem strB_inj {l k : List Nat} (hl : ∀ x ∈ l, x ≤ 255) (hk : ∀ x ∈ k, x ≤ 255) (h : strB l = strB k) : l = k := by
  unfold strB at h
  injection h with h
  have h := congrArg Array.toList h
  simp only at h
  have e : ∀ l : List Nat, (∀ x ∈ l, x ≤ 255) → (l.map UInt8.ofNat).map UInt8.toNat = l := fun l hl => by
    rw [List.map_map]
    conv => rhs; rw [← List.map_id l]
    exact List.map_congr_left fun x hx => by
      have := hl x hx
      simp only [Function.comp, UInt8.toNat_ofNat', id]
      omega
  rw [← e l hl, ← e k hk, h]
theorem run_convert_sees {P : Program} (w : World) (src dst e : TypeId) (hs : P.underlying src = some (.slice e)) (he : P.underlying e = some (.int .u8)) (hd : P.underlying dst = some .string)
    (ok : Nat → Prop) (A : Option Addr) (n c : Nat) (l : List Nat) (hl : l.length = n) (h : SeesP w ok A (l.map B8)) : (convert src dst (.slice A n c)).run P w = .ok (.string (strB l)) w := by
  subst hl
  by_cases hn : l = []
  · subst hn
    rw [run_convert_bytes_string w src dst e _ _ c hs he hd]
    cases A <;> simp [Conv.bytesToString, loadCells, strB]
    all_goals rfl
  · obtain ⟨b, o, rfl, _, hc⟩ := h (by simpa using hn)
    have h2 := run_convert_bytes_arg w src e hs he b o l.length c (l.map (fun x : Nat => (x : Int))) (by simp) (fun i hi => by
      have := hc i (B8 l[i]) (by simp [hi])
      rw [this]
      simp [B8, hi]) dst hd
    rw [h2]
    simp [strB, strOfNums, Function.comp_def]
section
variable {P : Program} {w : World} {ops : Array Oper} {rest : List Oper} {o : Oper} {a : Act} {Q : Exit → Act → World → Prop}
theorem wpList_convert_sees (hgd : o.guard = none) (src dst e : TypeId) (x : Operand) (ho : o.op = .convert src dst x) (hs : P.underlying src = some (.slice e)) (he : P.underlying e = some (.int .u8)) (hd : P.underlying dst = some .string)
    (ok : Nat → Prop) (A : Option Addr) (n c : Nat) (l : List Nat) (hx : a.eval x = .slice A n c) (hl : l.length = n) (h : SeesP w ok A (l.map B8)) (hw : wpList P ops Q rest (a.put o.dst (.string (strB l))) w) : wpList P ops Q (o :: rest) a w := by
  refine wpList_val (w' := w) (v := .string (strB l)) hgd ?_ hw
  have hr := run_convert_sees (P := P) w src dst e hs he hd ok A n c l hl h
  unfold execOp
  simp only [ho, hx, Sem.run_bind, hr, Result.andThen_ok, Sem.run_pure]
end
end Go.Proofs.Ytffenfhbiapefaa
