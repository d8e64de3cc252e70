/- Strings: joining; a string's bytes as a row; a new row's bytes as a string. -/
import Derived.Test.YtffenfhbiapefaaStr
import Derived.Test.YtffenfhbiapefaaAppS
import Derived.Lib.ConvBytes
import Derived.Lib.SlicesS
import Derived.Laws.Concat
namespace Go.Proofs.Ytffenfhbiapefaa
set_option linter.unusedVariables false
set_option linter.unusedSimpArgs false
open Go.RowKit

theorem strB_append (L M : List Nat) : strB L ++ strB M = strB (L ++ M) := by
  apply ByteArray.ext
  simp [strB, ByteArray.data_append]
theorem strB_nil : strB [] = ⟨#[]⟩ := rfl
theorem bytesOf_strB {L : List Nat} (h : ∀ x ∈ L, x ≤ 255) : bytesOf (strB L) = L := by
  unfold bytesOf strB
  rw [List.map_map]
  conv => rhs; rw [← List.map_id L]
  exact List.map_congr_left fun x hx => by
    have := h x hx
    simp only [Function.comp, UInt8.toNat_ofNat', id]
    omega
theorem beq_strB (s t : ByteArray) : (s.toList == t.toList) = decide (bytesOf s = bytesOf t) := by
  rw [Bool.eq_iff_iff, Lib.bytes_beq_iff, decide_eq_true_iff]
  exact ⟨fun h => by rw [h], fun h => by rw [← strB_bytesOf s, ← strB_bytesOf t, h]⟩
/-- A sum of strings. -/
theorem run_add_strB {P : Program} (L M : List Nat) (h : L.length + M.length ≤ 1000000000000) (w : World) : (Op.stringOp .add (strB L) (strB M)).run P w = .ok (.string (strB (L ++ M))) w := by
  rw [run_string_add_sum w _ _ (by rw [strB_size, strB_size]; omega), strB_append]
/-- string(b) of a row of one byte that was just made. -/
theorem run_one_string (w : World) (y : Nat) : (convert 40 9 (.slice (some ⟨w.heap.size, 0, none⟩) 1 1)).run Try.prog (w.alloc (.cells #[.int .u8 (y : Int)] 5)) = .ok (.string (strB [y])) (w.alloc (.cells #[.int .u8 (y : Int)] 5)) :=
  run_convert_sees (P := Try.prog) _ 40 9 5 Try.underlying40 Try.underlying5 Try.underlying9 _ _ 1 1 [y] rfl (SeesP.new w [.int .u8 (y : Int)] 5)

theorem run_bytes_str {P : Program} (w : World) (src dst e : TypeId) (s : ByteArray) (hs : P.underlying src = some .string) (hd : P.underlying dst = some (.slice e)) (he : P.underlying e = some (.int .u8)) :
    ∃ c w', (convert src dst (.string s)).run P w = .ok (.slice (some ⟨w.heap.size, 0, none⟩) s.size c) w' ∧ SeesP w' (fun k => k = w.heap.size) (some ⟨w.heap.size, 0, none⟩) ((bytesOf s).map B8) ∧ Q w w' ∧ w'.heap.size = w.heap.size + 1 ∧ s.size ≤ c := by
  refine ⟨_, _, Go.Lib.run_convert_string_bytes w src dst e s hs hd he, fun _ => ⟨_, 0, rfl, rfl, fun j u hj => ?_⟩, ⟨?_, ?_, ?_, ?_, ?_⟩, Go.Lib.bytesWorld_size w e s, ?_⟩
  · rw [List.getElem?_map, Option.map_eq_some_iff] at hj
    obtain ⟨x, hx, rfl⟩ := hj
    unfold bytesOf at hx
    rw [List.getElem?_map, Option.map_eq_some_iff] at hx
    obtain ⟨b, hb, rfl⟩ := hx
    obtain ⟨hlt, hb'⟩ := List.getElem?_eq_some_iff.1 hb
    rw [Nat.zero_add, Go.Lib.bytesWorld_cell w e s j (by simpa using hlt), List.getD_eq_getElem?_getD, hb]; rfl
  · simp [Go.Lib.bytesWorld, World.freeze, World.alloc, World.drew, -World.alloc_eq, -World.drew_eq]
  · simp [Go.Lib.bytesWorld, World.freeze, World.alloc, World.drew, -World.alloc_eq, -World.drew_eq]
  · simp [Go.Lib.bytesWorld, World.freeze, World.alloc, World.drew, -World.alloc_eq, -World.drew_eq]
  · rw [Go.Lib.bytesWorld_size]; omega
  · exact fun k hk => Go.Lib.bytesWorld_at_old w e s k hk
  · exact grownCap_ge w s.size 0 e
section
variable {P : Program} {w : World} {ops : Array Oper} {rest : List Oper} {o : Oper} {a : Act} {K : Exit → Act → World → Prop}
/-- []byte(s). -/
theorem wpList_bytes_str (hgd : o.guard = none) (src dst e : TypeId) (x : Operand) (ho : o.op = .convert src dst x) (hs : P.underlying src = some .string) (hd : P.underlying dst = some (.slice e)) (he : P.underlying e = some (.int .u8))
    (s : ByteArray) (hx : a.eval x = .string s)
    (hw : ∀ c w', SeesP w' (fun k => k = w.heap.size) (some ⟨w.heap.size, 0, none⟩) ((bytesOf s).map B8) → Q w w' → w'.heap.size = w.heap.size + 1 → s.size ≤ c → wpList P ops K rest (a.put o.dst (.slice (some ⟨w.heap.size, 0, none⟩) s.size c)) w') : wpList P ops K (o :: rest) a w := by
  obtain ⟨c, w', hr, h1, h2, h3, h4⟩ := run_bytes_str (P := P) w src dst e s hs hd he
  refine wpList_val (w' := w') (v := .slice (some ⟨w.heap.size, 0, none⟩) s.size c) hgd ?_ (hw c w' h1 h2 h3 h4)
  unfold execOp
  simp only [ho, hx, Sem.run_bind, hr, Result.andThen_ok, Sem.run_pure]
end
end Go.Proofs.Ytffenfhbiapefaa
