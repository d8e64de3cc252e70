/- What an argument is, out of how it reads as data: numbers, texts, structs and rows of them, whatever they hold. -/
import Derived.Test.YtffenfhbiapefaaMem
import Derived.Lib.SmallJoins
import Derived.Deep.Slices
import Derived.OpenShut
namespace Go.Proofs.Ytffenfhbiapefaa
set_option linter.unusedVariables false
set_option linter.unusedSimpArgs false
open Go.ChangeShapes Go.WideShapes Go.RowKit Go.Deep

section
variable {H : Type} {enc : TypeId × Value → H} {P : Program} {w : World} {held : Bool}
/-- All cells of type t that read as data are such as R says, for some a. -/
def Opens {α : Type} (enc : TypeId × Value → H) (P : Program) (w : World) (held : Bool) (t : TypeId) (R : List Value → α → Prop) : Prop :=
  ∀ n cs x, DataW.trod enc P w 0 (fun _ => true) held n t cs = some x → ∃ a, R cs a
def IntR (k : IntKind) (cs : List Value) (z : Int) : Prop := cs = [.int k z] ∧ (Lit.int k z).wf = true
def StrR (cs : List Value) (s : ByteArray) : Prop := cs = [.string s] ∧ s.size ≤ maxLen
def BoolR (cs : List Value) (b : Bool) : Prop := cs = [.bool b]
theorem Opens.int {t : TypeId} {k : IntKind} (ht : P.underlying t = some (.int k)) : Opens enc P w held t (IntR k) := fun n cs x h => by
  obtain ⟨z, hcs, _, hw⟩ := DataW.trod_int ht h
  exact ⟨z, hcs, hw⟩
theorem Opens.string {t : TypeId} (ht : P.underlying t = some .string) : Opens enc P w held t StrR := fun n cs x h => by
  obtain ⟨s, hcs, _, hw⟩ := DataW.trod_string ht h
  exact ⟨s, hcs, hw⟩
theorem Opens.bool {t : TypeId} (ht : P.underlying t = some .bool) : Opens enc P w held t BoolR := fun n cs x h => by
  obtain ⟨b, hcs, _⟩ := DataW.trod_bool ht h
  exact ⟨b, hcs⟩
theorem Opens.mono {α : Type} {t : TypeId} {R R' : List Value → α → Prop} (h : Opens enc P w held t R) (hR : ∀ cs a, R cs a → R' cs a) : Opens enc P w held t R' := fun n cs x hx => by
  obtain ⟨a, ha⟩ := h n cs x hx
  exact ⟨a, hR cs a ha⟩
/-- A row of things of size cells each that came in. -/
structure RowOfR {α : Type} (w : World) (size : Nat) (R : List Value → α → Prop) (A : Option Addr) (n c : Nat) (zs : List α) : Prop where
  le : n ≤ c
  max : c ≤ maxLen
  len : zs.length = c
  nil : A = none → c = 0
  at_ : zs ≠ [] → ∃ b o, A = some ⟨b, o, none⟩ ∧ b < w.heap.size ∧ ∀ i (h : i < zs.length), ∃ cs, cs.length = size ∧ (∀ j u, cs[j]? = some u → w.cell? ⟨b, o + i * size + j, none⟩ = some u) ∧ R cs zs[i]
theorem choose_row {α : Type} {p : Nat → α → Prop} : ∀ m, (∀ i, i < m → ∃ a, p i a) → ∃ zs : List α, zs.length = m ∧ ∀ i (h : i < zs.length), p i zs[i]
  | 0, _ => ⟨[], rfl, fun i h => by simp at h⟩
  | m + 1, h => by
    obtain ⟨zs, hl, hz⟩ := choose_row m (fun i hi => h i (by omega))
    obtain ⟨a, ha⟩ := h m (by omega)
    refine ⟨zs ++ [a], by simp [hl], fun i hi => ?_⟩
    rcases Nat.lt_or_ge i zs.length with h1 | h1
    · rw [List.getElem_append_left h1]; exact hz i h1
    · have : i = m := by rw [List.length_append, List.length_singleton] at hi; omega
      subst this
      rw [List.getElem_append_right (by omega)]
      simpa [hl] using ha
theorem Opens.slice {α : Type} {t e : TypeId} {R : List Value → α → Prop} (ht : P.underlying t = some (.slice e)) (size : Nat) (hs : P.cellsOf e = size) (hpos : 0 < size) (hE : Opens enc P w held e R) :
    Opens enc P w held t (fun cs (r : Option Addr × Nat × Nat × List α) => cs = [.slice r.1 r.2.1 r.2.2.1] ∧ RowOfR w size R r.1 r.2.1 r.2.2.1 r.2.2.2) := fun n cs x h => by
  rcases open_slice ht h with ⟨hcs, _⟩ | ⟨a, len, cap, m, n', D, Pl, hcs, _, hl, hm, hmm, _, hi⟩
  · exact ⟨(none, 0, 0, []), hcs, Nat.le_refl _, Nat.zero_le _, rfl, fun _ => rfl, fun h => absurd rfl h⟩
  · have hmc : m = cap := by simpa using hmm
    subst hmc
    have hat : ∀ i, i < m → ∃ z, ∃ cs, cs.length = size ∧ (∀ j u, cs[j]? = some u → w.cell? ((a.add (i * size)).add j) = some u) ∧ R cs z := fun i him => by
      obtain ⟨cs', h1, h2⟩ := hi i him
      rw [hs] at h1
      obtain ⟨_, hlen, hat⟩ := World.cells?_some h1
      obtain ⟨z, hz⟩ := hE _ _ _ h2
      refine ⟨z, cs', hlen, fun j u hu => ?_, hz⟩
      rw [hat j (by have := (List.getElem?_eq_some_iff.1 hu).1; omega)]; exact hu
    obtain ⟨zs, hzl, hz⟩ := choose_row m hat
    refine ⟨(some a, len, m, zs), hcs, hl, hm, hzl, (fun h => by cases h), fun hne => ?_⟩
    have h0 : 0 < zs.length := List.length_pos_iff.2 hne
    obtain ⟨cs0, hl0, hc0, _⟩ := hz 0 h0
    have hu0 : cs0[0]? = some (cs0[0]'(by omega)) := List.getElem?_eq_getElem (by omega)
    have hcell := hc0 0 _ hu0
    rw [Nat.zero_mul] at hcell
    have ha0 : (a.add 0).add 0 = a := by simp [Addr.add]
    rw [ha0] at hcell
    have hsp : a.spot = none := World.cell?_spot hcell
    have hax : a = ⟨a.block, a.off, none⟩ := by
      obtain ⟨b, o, s⟩ := a
      simp at hsp; subst hsp; rfl
    refine ⟨a.block, a.off, by rw [← hax], World.block_lt_of_cell? w _ hcell, fun i hi => ?_⟩
    obtain ⟨cs, h1, h2, h3⟩ := hz i hi
    refine ⟨cs, h1, fun j u hu => ?_, h3⟩
    have h4 := h2 j u hu
    have e : (a.add (i * size)).add j = ⟨a.block, a.off + i * size + j, none⟩ := by
      rw [hax]
      have add : ∀ (b o' j : Nat), (⟨b, o', none⟩ : Addr).add j = ⟨b, o' + j, none⟩ := fun b o' j => by
        unfold Addr.add
        split
        · rename_i h; subst h; rfl
        · rfl
      rw [add, add]
    rw [← e]; exact h4

theorem Opens.struct2 {α β : Type} {t : TypeId} {f0 f1 : Field} {R0 : List Value → α → Prop} {R1 : List Value → β → Prop} (ht : P.underlying t = some (.struct #[f0, f1])) (h0 : Opens enc P w held f0.type R0) (h1 : Opens enc P w held f1.type R1) :
    Opens enc P w held t (fun cs (r : α × β) => cs.length = P.cellsOf t ∧ R0 ((cs.drop f0.offset).take (P.cellsOf f0.type)) r.1 ∧ R1 ((cs.drop f1.offset).take (P.cellsOf f1.type)) r.2) := fun n cs x h => by
  obtain ⟨y0, y1, m, _, hl, k0, k1⟩ := trod_struct2 ht h
  obtain ⟨a, ha⟩ := h0 _ _ _ k0
  obtain ⟨b, hb⟩ := h1 _ _ _ k1
  exact ⟨(a, b), hl, ha, hb⟩
/-- The fields of a struct, one behind the other: i is the number of the first. -/
def FieldsR (P : Program) (fs : Array Field) (cs : List Value) : Nat → List (Sigma fun α : Type => (List Value → α → Prop)) → Prop
  | _, [] => True
  | i, ⟨_, R⟩ :: rest => (∃ f a, fs[i]? = some f ∧ R ((cs.drop f.offset).take (P.cellsOf f.type)) a) ∧ FieldsR P fs cs (i + 1) rest
theorem Opens.field {t : TypeId} {fs : Array Field} (ht : P.underlying t = some (.struct fs)) {n : Nat} {cs : List Value} {x : DataW H × List MemPlace} (h : DataW.trod enc P w 0 (fun _ => true) held n t cs = some x) :
    cs.length = P.cellsOf t ∧ ∀ {α : Type} {R : List Value → α → Prop} (i : Nat) (f : Field), fs[i]? = some f → Opens enc P w held f.type R → ∃ a, R ((cs.drop f.offset).take (P.cellsOf f.type)) a := by
  obtain ⟨xs, m, _, _, hl, hxl, hf⟩ := DataW.trod_struct ht h
  refine ⟨hl, fun i f hi hO => ?_⟩
  have h1 := hf i f hi
  have hlt : i < xs.length := by rw [hxl]; exact (Array.getElem?_eq_some_iff.1 hi).1
  rw [List.getElem?_eq_getElem hlt] at h1
  exact hO _ _ _ h1
theorem Opens.array {α : Type} {t e : TypeId} {n : Nat} {R : List Value → α → Prop} (ht : P.underlying t = some (.array n e)) (hE : Opens enc P w held e R) :
    Opens enc P w held t (fun cs (l : List α) => cs.length = P.cellsOf t ∧ l.length = n ∧ ∀ i (h : i < l.length), R ((cs.drop (i * P.cellsOf e)).take (P.cellsOf e)) l[i]) := fun k cs x h => by
  obtain ⟨xs, m, _, _, hl, hxl, hf⟩ := DataW.trod_array ht h
  obtain ⟨zs, hz1, hz2⟩ := choose_row (α := α) (p := fun i a => R ((cs.drop (i * P.cellsOf e)).take (P.cellsOf e)) a) n (fun i hi => by
    have h1 := hf i hi
    rw [List.getElem?_eq_getElem (by omega)] at h1
    exact hE _ _ _ h1)
  exact ⟨zs, hl, hz1, hz2⟩
end

/-- The cells of row i, j within. -/
theorem flat_get {α : Type} {f : α → List Value} {size : Nat} : ∀ (zs : List α), (∀ a ∈ zs, (f a).length = size) → ∀ j u, (zs.flatMap f)[j]? = some u → ∃ i k, ∃ h : i < zs.length, j = i * size + k ∧ (f zs[i])[k]? = some u
  | [], _, j, u, h => by simp at h
  | a :: zs, hl, j, u, h => by
    rw [List.flatMap_cons] at h
    have ha := hl a (List.mem_cons_self ..)
    rcases Nat.lt_or_ge j (f a).length with h1 | h1
    · rw [List.getElem?_append_left h1] at h
      exact ⟨0, j, by simp, by omega, h⟩
    · rw [List.getElem?_append_right h1] at h
      obtain ⟨i, k, hi, hj, hk⟩ := flat_get zs (fun b hb => hl b (List.mem_cons_of_mem _ hb)) _ u h
      refine ⟨i + 1, k, by simp; omega, ?_, by simpa using hk⟩
      rw [ha] at hj
      rw [Nat.add_mul, Nat.one_mul]; omega
theorem flat_at {α : Type} {f : α → List Value} {size : Nat} : ∀ (zs : List α), (∀ a ∈ zs, (f a).length = size) → ∀ i k (h : i < zs.length), k < size → (zs.flatMap f)[i * size + k]? = (f zs[i])[k]?
  | [], _, i, k, h, _ => by simp at h
  | a :: zs, hl, i, k, h, hk => by
    have ha := hl a (List.mem_cons_self ..)
    rw [List.flatMap_cons]
    cases i with
    | zero => rw [Nat.zero_mul, Nat.zero_add, List.getElem?_append_left (by omega)]; rfl
    | succ i =>
      rw [List.getElem?_append_right (by rw [ha, Nat.add_mul]; omega), ha, show (i + 1) * size + k - size = i * size + k by rw [Nat.add_mul]; omega]
      have := flat_at zs (fun b hb => hl b (List.mem_cons_of_mem _ hb)) i k (by simpa using h) hk
      simpa using this
theorem flat_len {α : Type} {f : α → List Value} {size : Nat} : ∀ (zs : List α), (∀ a ∈ zs, (f a).length = size) → (zs.flatMap f).length = zs.length * size
  | [], _ => by simp
  | a :: zs, hl => by
    rw [List.flatMap_cons, List.length_append, hl a (List.mem_cons_self ..), flat_len zs (fun b hb => hl b (List.mem_cons_of_mem _ hb)), List.length_cons, Nat.add_mul]; omega
section
variable {α : Type} {w : World} {size : Nat} {R : List Value → α → Prop} {A : Option Addr} {n c : Nat} {zs : List α}
/-- A row whose things are told by what they are. -/
theorem RowOfR.sees (h : RowOfR w size R A n c zs) (f : α → List Value) (hf : ∀ cs a, R cs a → cs = f a) : Sees w w.heap.size A (zs.flatMap f) := fun hn => by
  have hne : zs ≠ [] := by rintro rfl; exact hn rfl
  obtain ⟨b, o, hA, hb, hat⟩ := h.at_ hne
  have hl : ∀ a ∈ zs, (f a).length = size := fun a ha => by
    obtain ⟨i, hi, rfl⟩ := List.mem_iff_getElem.1 ha
    obtain ⟨cs, h1, _, h3⟩ := hat i hi
    rw [← hf cs _ h3]; exact h1
  refine ⟨b, o, hA, hb, fun j u hj => ?_⟩
  obtain ⟨i, k, hi, rfl, hk⟩ := flat_get zs hl j u hj
  obtain ⟨cs, h1, h2, h3⟩ := hat i hi
  rw [← hf cs _ h3] at hk
  have := h2 k u hk
  rw [show o + i * size + k = o + (i * size + k) by omega] at this
  exact this
theorem RowOfR.all (h : RowOfR w size R A n c zs) : ∀ a ∈ zs, ∃ cs, R cs a := fun a ha => by
  obtain ⟨i, hi, rfl⟩ := List.mem_iff_getElem.1 ha
  obtain ⟨b, o, _, _, hat⟩ := h.at_ (by rintro rfl; simp at hi)
  obtain ⟨cs, _, _, h3⟩ := hat i hi
  exact ⟨cs, h3⟩
end
end Go.Proofs.Ytffenfhbiapefaa
