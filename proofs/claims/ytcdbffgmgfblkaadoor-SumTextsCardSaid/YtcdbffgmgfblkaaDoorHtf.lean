/- SumTexts: what comes in. -/
import Derived.Test.YtcdbffgmgfblkaaDoorHte
import Derived.Test.YtcdbffgmgfblkaaDoorOpg
namespace Go.Proofs.YtcdbffgmgfblkaaDoor
set_option linter.unusedVariables false
set_option linter.unusedSimpArgs false
open Go.RowKit

section
open Go.ChangeShapes Go.WideShapes Go.Deep
variable {H : Type} {enc : TypeId × Value → H} {w : World} {held : Bool}
set_option maxRecDepth 100000 in
/-- An array of 32 bytes that came in. -/
theorem arr_of_trod {r : Reach} {b0 : Nat} {v : Value} {d : DataW H} {p : List MemPlace} (hv : Value.okWide Tryd.prog w r b0 28 v) (h : DataW.Trod enc Tryd.prog w 0 (fun _ => true) held 28 v d p) :
    ∃ L : List Nat, v = .agg (arrO L) ∧ (∀ x ∈ L, x ≤ 255) ∧ L.length = 32 := by
  have hC : Tryd.prog.cellsOf 28 = 32 := by kernel_rfl
  have hC1 : Tryd.prog.cellsOf 5 = 1 := by kernel_rfl
  obtain ⟨cs, rfl, hsz⟩ : ∃ cs, v = .agg cs ∧ cs.size = Tryd.prog.cellsOf 28 := by
    simp only [Value.okWide, Tryd.underlying28] at hv
    obtain ⟨cs, h1, h2, _⟩ := hv
    exact ⟨cs, h1, h2⟩
  obtain ⟨fuel, hf⟩ := h
  obtain ⟨l, _, hl, hat⟩ := Opens.array (enc := enc) (P := Tryd.prog) (w := w) (held := held) (n := 32) Tryd.underlying28 (Opens.int Tryd.underlying5) _ _ _ hf
  have hcell : ∀ i (hi : i < l.length), cs[i]? = some (.int .u8 l[i]) ∧ (Lit.int .u8 l[i]).wf = true := fun i hi => by
    obtain ⟨h1, h2⟩ := hat i hi
    rw [hC1, Nat.mul_one] at h1
    refine ⟨?_, h2⟩
    have h3 := congrArg (·[0]?) h1
    simpa [Value.cells] using h3
  have hz : ∀ z ∈ l, 0 ≤ z ∧ z ≤ 255 := fun z hz => by
    obtain ⟨i, hi, rfl⟩ := List.getElem_of_mem hz
    exact wf8 (hcell i hi).2
  refine ⟨l.map Int.toNat, ?_, fun x hx => ?_, by rw [List.length_map, hl]⟩
  · refine arrO_eq ⟨cs, rfl, by rw [hsz, hC], fun i hi => ?_⟩
    have hil : i < l.length := by rw [hl]; exact hi
    rw [(hcell i hil).1]
    have h4 := hz _ (List.getElem_mem hil)
    have h5 : (l.map Int.toNat).getD i 0 = l[i].toNat := by rw [List.getD_eq_getElem?_getD, List.getElem?_map, List.getElem?_eq_getElem hil]; rfl
    unfold arrF B8
    rw [h5, Int.toNat_of_nonneg h4.1]
  · obtain ⟨z, hz', rfl⟩ := List.mem_map.1 hx
    have := hz z hz'
    omega
end
theorem sumTexts_true (L : List Nat) (t : ByteArray) (_ : t.size ≤ maxLen) (w : World) (w0 : (∀ x ∈ L, x ≤ 255) ∧ L.length = 32) (hG : Glob w) :
    Calls Tryd.prog 9 #[.agg (arrO L), .string t] w fun e w' => e = .returned (.bool true) ∧ Below w.heap.size w w' := by
  have h := sumTexts_walk L w0.1 w0.2 (bytesOf t) (bytesOf_byte t) w hG
  rw [strB_bytesOf] at h
  exact h
end Go.Proofs.YtcdbffgmgfblkaaDoor
