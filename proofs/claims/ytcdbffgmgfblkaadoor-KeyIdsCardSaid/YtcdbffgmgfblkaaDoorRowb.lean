/- Rows of rows of bytes that came in. -/
import Derived.Test.YtcdbffgmgfblkaaDoorOpg
import Derived.Test.YtcdbffgmgfblkaaDoorBts
import Derived.Test.YtcdbffgmgfblkaaDoorShaO
namespace Go.Proofs.YtcdbffgmgfblkaaDoor
set_option linter.unusedVariables false
set_option linter.unusedSimpArgs false
open Go.RowKit

structure RowB (w : World) (a : Option Addr) (n c : Nat) (parts : List (Value × List Nat)) : Prop where
  le : n ≤ c
  max : c ≤ 9223372036854775807
  len : parts.length = c
  nil : a = none → c = 0
  sees : Sees w w.heap.size a (parts.map (·.1))
  prt : PartsB w (· < w.heap.size) parts
  caps : ∀ z ∈ parts, ∃ B m k, z.1 = .slice B m k ∧ m ≤ k ∧ k ≤ 9223372036854775807
theorem PartsB.take {w : World} {ok : Nat → Prop} {parts : List (Value × List Nat)} (h : PartsB w ok parts) (k : Nat) : PartsB w ok (parts.take k) := fun z hz => h z (List.mem_of_mem_take hz)
theorem PartsB.belowP {w w' : World} {ok : Nat → Prop} {parts : List (Value × List Nat)} {B : Nat} (h : PartsB w ok parts) (hok : ∀ b, ok b → b < B) (hb : Below B w w') : PartsB w' ok parts := fun z hz => by
  obtain ⟨A, n, c, h1, h2, h3, h4⟩ := h z hz
  exact ⟨A, n, c, h1, h2, h3.belowP hok hb, h4⟩
theorem PartsB.more {w : World} {ok ok' : Nat → Prop} {parts : List (Value × List Nat)} (h : PartsB w ok parts) (hm : ∀ b, ok b → ok' b) : PartsB w ok' parts := fun z hz => by
  obtain ⟨A, n, c, h1, h2, h3, h4⟩ := h z hz
  exact ⟨A, n, c, h1, h2, h3.more hm, h4⟩

abbrev BR (w : World) (cs : List Value) (r : Option Addr × Nat × Nat × List Int) : Prop := cs = [.slice r.1 r.2.1 r.2.2.1] ∧ RowOfR w 1 (IntR .u8) r.1 r.2.1 r.2.2.1 r.2.2.2
theorem bytesR {w : World} {A : Option Addr} {n c : Nat} {zs : List Int} (h : RowOfR w 1 (IntR .u8) A n c zs) : Sees w w.heap.size A ((zs.map Int.toNat).map B8) ∧ (∀ x ∈ zs.map Int.toNat, x ≤ 255) := by
  have hz : ∀ z ∈ zs, 0 ≤ z ∧ z ≤ 255 := fun z hz => by
    obtain ⟨i, hi, rfl⟩ := List.getElem_of_mem hz
    obtain ⟨b, o, _, _, hat⟩ := h.at_ (List.ne_nil_of_mem hz)
    obtain ⟨cs, _, _, _, hw⟩ := hat i hi
    exact wf8 hw
  refine ⟨fun hn => ?_, fun x hx => ?_⟩
  · obtain ⟨b, o, e, hb, hat⟩ := h.at_ (by rintro rfl; exact hn rfl)
    refine ⟨b, o, e, hb, fun j u hu => ?_⟩
    rw [List.map_map, List.getElem?_map, Option.map_eq_some_iff] at hu
    obtain ⟨z, hz1, rfl⟩ := hu
    obtain ⟨hj, rfl⟩ := List.getElem?_eq_some_iff.1 hz1
    obtain ⟨cs, _, hc, rfl, _⟩ := hat j hj
    have := hc 0 _ rfl
    rw [Nat.mul_one, Nat.add_zero] at this
    rw [this]
    simp only [Function.comp, B8]
    rw [Int.toNat_of_nonneg (hz _ (List.getElem_mem hj)).1]
  · rw [List.mem_map] at hx
    obtain ⟨z, h1, rfl⟩ := hx
    have := hz z h1
    omega
theorem rowOf_byteRows {H : Type} {enc : TypeId × Value → H} {w : World} {held : Bool} {a : Option Addr} {n c : Nat} {d : DataW H} {ps : List MemPlace} (h : DataW.Trod enc Tryd.prog w 0 (fun _ => true) held 31 (.slice a n c) d ps) : ∃ parts, RowB w a n c parts := by
  obtain ⟨fuel, hf⟩ := h
  obtain ⟨⟨A, n', c', zs⟩, h1, h2⟩ := Opens.slice Tryd.underlying31 1 (by kernel_rfl) (by omega) (Opens.slice Tryd.underlying22 1 (by kernel_rfl) (by omega) (Opens.int Tryd.underlying5)) _ _ _ hf
  simp [Value.cells] at h1
  obtain ⟨rfl, rfl, rfl⟩ := h1
  have h2 : RowOfR w 1 (BR w) a n c zs := h2
  have hr : ∀ z ∈ zs, RowOfR w 1 (IntR .u8) z.1 z.2.1 z.2.2.1 z.2.2.2 := fun z hz => by
    obtain ⟨i, hi, rfl⟩ := List.getElem_of_mem hz
    obtain ⟨b, o, _, _, hat⟩ := h2.at_ (List.ne_nil_of_mem hz)
    obtain ⟨cs, _, _, _, hw⟩ := hat i hi
    exact hw
  refine ⟨zs.map fun z => (.slice z.1 z.2.1 z.2.2.1, (z.2.2.2.map Int.toNat).take z.2.1), h2.le, h2.max, by rw [List.length_map]; exact h2.len, h2.nil, ?_, ?_, ?_⟩
  · intro hn
    obtain ⟨b, o, e, hb, hat⟩ := h2.at_ (by rintro rfl; exact hn rfl)
    refine ⟨b, o, e, hb, fun j u hu => ?_⟩
    rw [List.map_map, List.getElem?_map, Option.map_eq_some_iff] at hu
    obtain ⟨z, hz1, rfl⟩ := hu
    obtain ⟨hj, rfl⟩ := List.getElem?_eq_some_iff.1 hz1
    obtain ⟨cs, _, hc, rfl, _⟩ := hat j hj
    have := hc 0 _ rfl
    rw [Nat.mul_one, Nat.add_zero] at this
    exact this
  · intro z hz
    rw [List.mem_map] at hz
    obtain ⟨y, hy, rfl⟩ := hz
    have hy := hr y hy
    obtain ⟨k1, k2⟩ := bytesR hy
    refine ⟨_, _, _, rfl, ?_, ?_, fun x hx => k2 x (List.mem_of_mem_take hx)⟩
    · have := hy.le
      have := hy.len
      simp only [List.length_take, List.length_map]; omega
    · show SeesP w _ _ (((y.2.2.2.map Int.toNat).take y.2.1).map B8)
      rw [List.map_take]
      exact k1.take _
  · intro z hz
    rw [List.mem_map] at hz
    obtain ⟨y, hy, rfl⟩ := hz
    have hy := hr y hy
    exact ⟨_, _, _, rfl, hy.le, hy.max⟩
end Go.Proofs.YtcdbffgmgfblkaaDoor
