/- A node that came in: its list of names is no longer than memory; only the names up to its length matter. -/
import Derived.Test.YtffenfhbiapefaaNfw
import Derived.SizedLaws
namespace Go.Proofs.Ytffenfhbiapefaa
set_option linter.unusedVariables false
set_option linter.unusedSimpArgs false
open Go.RowKit

def NdIn.cut (z : NdIn) : NdIn := ⟨{ z.n with ids := z.n.ids.take z.pn }, z.A, z.pn, z.pc⟩
theorem NdIn.cut_cells (z : NdIn) : ndC z.cut.n z.cut.A z.cut.pn z.cut.pc = ndC z.n z.A z.pn z.pc := rfl
theorem NdOk.fits {w : World} {z : NdIn} (h : NdOk w z) : Fits z.cut ∧ SeesP w (· < w.heap.size) z.A (z.cut.n.ids.flatMap gL) := by
  have hp := h.parts
  have hlen : (z.n.ids.take z.pn).length = z.pn := by rw [List.length_take, hp.len]; have := hp.le; omega
  refine ⟨⟨⟨hlen, h.tree.2, by show z.pn ≤ _; have := hp.le; have := hp.max; unfold maxLen at this; omega, h.name, h.target⟩, by show z.pn ≤ _; have := hp.le; have := hp.max; unfold maxLen at this; omega, fun i hi => ?_, h.tree.1⟩, ?_⟩
  · obtain ⟨cs, h1, h2, h3⟩ := hp.all i (List.mem_of_mem_take hi)
    exact ⟨h3, h2⟩
  · have hs : SeesP w (· < w.heap.size) z.A (z.n.ids.flatMap gL) := fun hn => hp.sees gL (fun cs a h => h.1) hn
    have e : z.n.ids.flatMap gL = (z.n.ids.take z.pn).flatMap gL ++ (z.n.ids.drop z.pn).flatMap gL := by rw [← List.flatMap_append, List.take_append_drop]
    intro hn
    rw [e] at hs
    obtain ⟨b, o, hA, hb', hc⟩ := hs (by intro h0; exact hn (List.append_eq_nil_iff.1 h0).1)
    refine ⟨b, o, hA, hb', fun j u hu => hc j u ?_⟩
    have hu' : ((z.n.ids.take z.pn).flatMap gL)[j]? = some u := hu
    rw [List.getElem?_append_left (List.getElem?_eq_some_iff.1 hu').1]
    exact hu'
section
open Go.ChangeShapes Go.WideShapes Go.Deep
variable {H : Type} {enc : TypeId × Value → H} {w : World} {held : Bool}
set_option maxRecDepth 100000 in
theorem node_sized {z : NdIn} {d : DataW H} {p : List MemPlace} (h : DataW.Trod enc Try.prog w 0 (fun _ => true) held 26 (.agg (ndC z.n z.A z.pn z.pc)) d p) (hs : ∀ x ∈ d.weights Try.prog 26, x ≤ reachBytes) : z.pn ≤ 4398046510976 := by
  obtain ⟨fuel, hf⟩ := h
  obtain ⟨xs, m, _, hx, hl, hxl, hfi⟩ := DataW.trod_struct Try.underlying26 hf
  injection hx with hd _
  subst hd
  have h6 := hfi 6 _ rfl
  have hlt : 6 < xs.length := by rw [hxl]; decide
  rw [List.getElem?_eq_getElem hlt] at h6
  have hmem : ∀ x ∈ (xs[6].1).weights Try.prog 22, x ≤ reachBytes := fun x hx => by
    refine hs x ?_
    unfold DataW.weights
    rw [show Try.prog.underlying 26 = some (.struct _) from Try.underlying26]
    exact DataW.weights_mem_each (j := 6) (t := 22) (d := xs[6].1) rfl (by rw [List.getElem?_map, List.getElem?_eq_getElem hlt]; rfl) x hx
  rcases open_slice Try.underlying22 h6 with ⟨hcs, _⟩ | ⟨a, len, cap, m2, n', D, Pl, hcs, _, hl2, hm, hmm, hxx, hi⟩
  · have hc : (Value.agg (ndC z.n z.A z.pn z.pc)).cells.toList = ndL z.n z.A z.pn z.pc := rfl
    have : [Value.slice z.A z.pn z.pc] = [.slice none 0 0] := hcs
    injection this with h1 _
    injection h1 with _ h2 _
    omega
  · have : [Value.slice z.A z.pn z.pc] = [.slice (some a) len cap] := hcs
    injection this with h1 _
    injection h1 with _ h2 _
    have hw : (((List.range len).map D).length + ((List.range (m2 - len)).map fun j => D (len + j)).length) * Try.prog.bytesOf 24 ≤ reachBytes := by
      refine hmem _ ?_
      rw [hxx]
      simp [DataW.weights, Try.underlying22]
    rw [show Try.prog.bytesOf 24 = 32 by kernel_rfl] at hw
    simp only [List.length_map, List.length_range] at hw
    unfold reachBytes at hw
    omega
end
theorem nodeChecks_true (z : NdIn) (s : ByteArray) (hs : s.size ≤ maxLen) (w : World) (h : NdOk w z) (hb : z.pn ≤ 4398046510976) :
    Calls Try.prog 3 #[.agg (ndC z.n z.A z.pn z.pc), .string s] w fun e w' => e = .returned (.bool true) ∧ Below w.heap.size w w' := by
  obtain ⟨h1, h2⟩ := h.fits
  exact nodeChecks_walk z.cut.n z.A z.pn z.pc s w h2 h1 hs hb
end Go.Proofs.Ytffenfhbiapefaa
