/- Words for memory that a walk needs: a slice that reads as a row of cells, nil too; and how such a reading lasts. -/
import Derived.WalkKit
import Derived.IntWalk
import Derived.Deep.OwnRows
import Derived.Laws.AppendOwnNone
import Derived.Maps.AppendAt
import Derived.Deep.Draws
import Derived.Deep.QuietTactic
import Derived.BigQuiet
import Derived.Lib.Hide
namespace Go.Proofs.Ytffpaeljnfmmiaa
set_option linter.unusedVariables false
set_option linter.unusedSimpArgs false
open Go.RowKit

/-- The slice address A reads as the cells xs, in a block for which ok holds (nothing is asked of an empty one). -/
def SeesP (w : World) (ok : Nat → Prop) (A : Option Addr) (xs : List Value) : Prop :=
  xs ≠ [] → ∃ b o, A = some ⟨b, o, none⟩ ∧ ok b ∧ ∀ j u, xs[j]? = some u → w.cell? ⟨b, o + j, none⟩ = some u
/-- It lies below block B. -/
abbrev Sees (w : World) (B : Nat) (A : Option Addr) (xs : List Value) : Prop := SeesP w (· < B) A xs

section
variable {w w' : World} {B B' : Nat} {ok ok' : Nat → Prop} {A : Option Addr} {xs : List Value}
theorem SeesP.nil (w : World) (ok : Nat → Prop) (A : Option Addr) : SeesP w ok A [] := fun h => absurd rfl h
theorem SeesP.at_ (h : SeesP w ok A xs) {k : Nat} {u : Value} (hk : xs[k]? = some u) : ∃ b o, A = some ⟨b, o, none⟩ ∧ ok b ∧ w.cell? ⟨b, o + k, none⟩ = some u := by
  obtain ⟨b, o, e, hb, hc⟩ := h (by rintro rfl; simp at hk)
  exact ⟨b, o, e, hb, hc k u hk⟩
theorem SeesP.keep (h : SeesP w ok A xs) (hk : ∀ p : Addr, ok p.block → w'.cell? p = w.cell? p) : SeesP w' ok A xs := fun hn => by
  obtain ⟨b, o, e, hb, hc⟩ := h hn
  exact ⟨b, o, e, hb, fun j u hu => (hk ⟨b, o + j, none⟩ hb).trans (hc j u hu)⟩
theorem SeesP.more (h : SeesP w ok A xs) (hB : ∀ b, ok b → ok' b) : SeesP w ok' A xs := fun hn => by
  obtain ⟨b, o, e, hb, hc⟩ := h hn
  exact ⟨b, o, e, hB b hb, hc⟩
theorem SeesP.belowP (h : SeesP w ok A xs) (hok : ∀ b, ok b → b < B) (hb : Below B w w') : SeesP w' ok A xs := h.keep fun _ hp => hb.cell (hok _ hp)
theorem SeesP.below (h : Sees w B A xs) (hb : Below B w w') : Sees w' B A xs := h.keep fun _ hp => hb.cell hp
theorem SeesP.drew (h : SeesP w ok A xs) : SeesP w.drew ok A xs := h
theorem SeesP.drewN (h : SeesP w ok A xs) (k : Nat) : SeesP (w.drewN k) ok A xs := h
theorem SeesP.alloc (h : SeesP w ok A xs) (hB : ∀ b, ok b → b < w.heap.size) (o : Obj) : SeesP (w.alloc o) ok A xs := h.keep fun p hp => World.cell?_alloc_lt w o p (hB _ hp)
theorem SeesP.setCell (h : SeesP w ok A xs) {p : Addr} (hB : ¬ ok p.block) (u : Value) : SeesP (w.setCell p u) ok A xs :=
  h.keep fun q hq => World.cell?_setCell_other w p q u (fun e => by subst e; exact hB hq)
/-- A row that was just made. -/
theorem SeesP.new (w : World) (cs : List Value) (t : TypeId) : Sees (w.alloc (.cells cs.toArray t)) (w.heap.size + 1) (some ⟨w.heap.size, 0, none⟩) cs := fun _ =>
  ⟨_, 0, rfl, by omega, fun j u hu => by
    have h := heap_alloc_new w (.cells cs.toArray t)
    simp only [World.cell?, h]
    simpa using hu⟩
end

/-- A slice of whole numbers that came in: nil, or a row of cap cells of which the first len are its elements. -/
def IsRow (k : IntKind) (w : World) (a : Option Addr) (len cap : Nat) (zs : List Int) : Prop :=
  (a = none ∧ len = 0 ∧ cap = 0 ∧ zs = []) ∨
  ∃ x, a = some x ∧ len ≤ cap ∧ cap ≤ maxLen ∧ zs.length = cap ∧ (∀ i, i < zs.length → w.cell? (x.add i) = some (.int k (zs.getD i 0))) ∧ ∀ n ∈ zs, (Lit.int k n).wf = true
theorem IsRow.len_le {k : IntKind} {w : World} {a : Option Addr} {len cap : Nat} {zs : List Int} (h : IsRow k w a len cap zs) : len ≤ cap ∧ zs.length = cap ∧ cap ≤ maxLen := by
  rcases h with ⟨_, rfl, rfl, rfl⟩ | ⟨x, _, h1, h2, h3, _⟩
  · exact ⟨Nat.le_refl _, rfl, Nat.zero_le _⟩
  · exact ⟨h1, h3, h2⟩
theorem IsRow.wf {k : IntKind} {w : World} {a : Option Addr} {len cap : Nat} {zs : List Int} (h : IsRow k w a len cap zs) : ∀ n ∈ zs, (Lit.int k n).wf = true := by
  rcases h with ⟨_, rfl, rfl, rfl⟩ | ⟨x, _, _, _, _, _, h⟩
  · intro n hn; simp at hn
  · exact h
theorem add_of {x : Addr} {i : Nat} {w : World} {v : Value} (h : w.cell? (x.add 0) = some v) : x.add i = ⟨x.block, x.off + i, none⟩ := by
  have hs : x.spot = none := by
    obtain ⟨b, o, s⟩ := x
    have h1 : (⟨b, o, s⟩ : Addr).add 0 = ⟨b, o, s⟩ := rfl
    rw [h1] at h
    exact World.cell?_spot h
  unfold Addr.add
  split
  · rename_i e; subst e; obtain ⟨b, o, s⟩ := x; simp at hs; subst hs; rfl
  · rfl
theorem IsRow.sees {k : IntKind} {w : World} {a : Option Addr} {len cap : Nat} {zs : List Int} (h : IsRow k w a len cap zs) : Sees w w.heap.size a (zs.map (.int k)) := by
  rcases h with ⟨rfl, rfl, rfl, rfl⟩ | ⟨x, rfl, h1, h2, h3, h4, h5⟩
  · exact SeesP.nil _ _ _
  · intro hn
    have hlen : 0 < zs.length := by
      cases zs with
      | nil => exact absurd rfl hn
      | cons _ _ => simp
    have h0 := h4 0 hlen
    have hx : x = ⟨x.block, x.off, none⟩ := by
      have := add_of (i := 0) h0
      simpa [Addr.add] using this
    refine ⟨x.block, x.off, by rw [← hx], ?_, fun j u hj => ?_⟩
    · exact World.block_lt_of_cell? w _ h0
    · rw [← add_of (i := j) h0]
      rw [List.getElem?_map, Option.map_eq_some_iff] at hj
      obtain ⟨z, hz, rfl⟩ := hj
      obtain ⟨hlt, hz'⟩ := List.getElem?_eq_some_iff.1 hz
      rw [h4 j hlt, List.getD_eq_getElem?_getD, hz]; rfl
theorem SeesP.prefix_ {w : World} {ok : Nat → Prop} {A : Option Addr} {xs ys : List Value} (h : SeesP w ok A (xs ++ ys)) : SeesP w ok A xs := fun hn => by
  obtain ⟨b, o, e, hb, hc⟩ := h (by simp [hn])
  exact ⟨b, o, e, hb, fun j u hu => hc j u (by rw [List.getElem?_append_left (by exact (List.getElem?_eq_some_iff.1 hu).1)]; exact hu)⟩
theorem SeesP.take {w : World} {ok : Nat → Prop} {A : Option Addr} {xs : List Value} (h : SeesP w ok A xs) (n : Nat) : SeesP w ok A (xs.take n) := by
  rw [← List.take_append_drop n xs] at h; exact h.prefix_
theorem wf_bounds {k : IntKind} {a : Int} (h : (Lit.int k a).wf = true) : k.min ≤ a ∧ a ≤ k.max := by
  simp only [Lit.wf, Bool.and_eq_true, decide_eq_true_eq] at h; exact h
theorem wf64 {a : Int} (h : (Lit.int .u64 a).wf = true) : 0 ≤ a ∧ a ≤ 18446744073709551615 := wf_bounds h
theorem wfi64 {a : Int} (h : (Lit.int .i64 a).wf = true) : -9223372036854775808 ≤ a ∧ a ≤ 9223372036854775807 := wf_bounds h
theorem wf8 {a : Int} (h : (Lit.int .u8 a).wf = true) : 0 ≤ a ∧ a ≤ 255 := wf_bounds h

/-- What was there when the call began is as it was. -/
def Q (w w' : World) : Prop := Below w.heap.size w w'
theorem Q.refl (w : World) : Q w w := Below.refl _ _
theorem Q.alloc {w w' : World} (h : Q w w') (o : Obj) : Q w (w'.alloc o) := Below.alloc h h.size o
theorem Q.drew {w w' : World} (h : Q w w') : Q w w'.drew := Below.drew h
theorem Q.drewN {w w' : World} (h : Q w w') (n : Nat) : Q w (w'.drewN n) := h.trans ⟨rfl, rfl, rfl, Nat.le_refl _, fun _ _ => rfl⟩
theorem Q.step {w w1 w2 : World} (h : Q w w1) (k : Below w1.heap.size w1 w2) : Q w w2 := Below.trans h (k.mono h.size)
theorem Q.setNew {w w' : World} (h : Q w w') {p : Addr} (hp : w.heap.size ≤ p.block) (u : Value) : Q w (w'.setCell p u) := Below.setCell h hp u

/-- What an own row that may have grown reads as. -/
theorem SeesP.of_own {w : World} {base : Nat} {e : TypeId} {v : Value} {n : Nat} {xs : List Value} (h : w.ownsRow base e 1 v n xs) :
    ∃ A c, v = .slice A n c ∧ (A = none → c = 0) ∧ SeesP w (fun b => base ≤ b ∧ b < w.heap.size) A xs := by
  obtain ⟨h1, h2⟩ := h
  rcases h2 with ⟨rfl, rfl⟩ | ⟨g, cap, cur, rfl, hg, hh, hnc, hcm, hcs, hxs⟩
  · have : xs = [] := List.eq_nil_of_length_eq_zero (by simpa using h1)
    subst this
    exact ⟨none, 0, rfl, fun _ => rfl, SeesP.nil _ _ _⟩
  · refine ⟨_, cap, rfl, (fun h => by cases h), fun _ => ⟨g, 0, rfl, ⟨hg, ?_⟩, fun j u hu => ?_⟩⟩
    · rcases Nat.lt_or_ge g w.heap.size with h | h
      · exact h
      · rw [Array.getElem?_eq_none h] at hh; cases hh
    · simp only [World.cell?, hh]
      subst hxs
      rw [List.getElem?_take] at hu
      split at hu
      · simpa using hu
      · cases hu

theorem own_block {w : World} {base : Nat} {e : TypeId} {size : Nat} {v : Value} {n : Nat} {xs : List Value} (h : w.ownsRow base e size v n xs) : ∀ g, v.ownBlock = some g → base ≤ g := by
  intro g hg
  rcases h.2 with ⟨rfl, _⟩ | ⟨g', cap, cur, rfl, hgb, _⟩
  · simp [Value.ownBlock] at hg
  · simp [Value.ownBlock] at hg; omega
/-- Behind an append onto an own row. -/
theorem Q.grown {w wr w1 : World} (hq : Q w wr) {e : TypeId} {size : Nat} {v : Value} {n : Nat} {xs : List Value} {w0 : World} (hown : w0.ownsRow w.heap.size e size v n xs) (hg : wr.grownBy w1 v.ownBlock) : Q w w1 :=
  Below.grown hq hg hq.size (own_block hown)
theorem one_cell (w : World) (u : Value) (t : TypeId) : ∀ (j : Nat) (x : Value), [u][j]? = some x → (w.alloc (.cells #[u] t)).cell? ((⟨w.heap.size, 0, none⟩ : Addr).add j) = some x := by
  intro j x hx
  match j, hx with
  | 0, hx => simp at hx; subst hx; go_simp

/-- append onto an own row from a row that reads, nil or not. -/
theorem wpList_append_sees {P : Program} {w : World} {ops : Array Oper} {rest : List Oper} {o : Oper} {a : Act} {K : Exit → Act → World → Prop} (hgd : o.guard = none) (s x : Operand) (t : TypeId)
    (ho : o.op = .call { callee := .builtin .append, args := #[s, x], argTypes := #[t, t] })
    (base : Nat) (e : TypeId) (i : TypeInfo) (z : Value) (bytes : Nat) (ht : P.underlying t = some (.slice e)) (hi : P.info? e = some i) (hz : i.zero = some z)
    (hsize : i.size = 1) (hby : i.bytes = bytes) (hzs : z.cells.size = 1)
    (v : Value) (n : Nat) (xs : List Value) (hs : a.eval s = v) (hown : w.ownsRow base e 1 v n xs)
    (ok : Nat → Prop) (A : Option Addr) (m c : Nat) (news : List Value) (hx : a.eval x = .slice A m c) (hA : A = none → c = 0) (hl : news.length = m) (hr : SeesP w ok A news) (h1 : ∀ u ∈ news, u.oneCell' = true)
    (h63 : n + m ≤ maxLen) (hbytes : (n + m) * bytes ≤ 140737488355328) (hbase : base ≤ w.heap.size)
    (h : ∀ v' w', w'.ownsRow base e 1 v' (n + m) (xs ++ news) → w.grownBy w' v.ownBlock → (v' = .slice none 0 0 ↔ v = .slice none 0 0 ∧ m = 0) → (v'.ownBlock = v.ownBlock ∨ v'.ownBlock = some w.heap.size) → wpList P ops K rest (a.put o.dst v') w') : wpList P ops K (o :: rest) a w := by
  subst hl
  rcases A with _ | ad
  · have hn : news = [] := by
      rcases Classical.em (news = []) with h | h
      · exact h
      · obtain ⟨b, o', e, _⟩ := hr h; cases e
    subst hn
    have hc := hA rfl
    subst hc
    refine wpList_append_own_none hgd s x t ho base e i 1 ht hi v n xs hs hown hx ?_
    exact h v w (by simpa using hown) (World.grownBy.refl w _) (by simp) (.inl rfl)
  · refine wpList_append_own_at w hgd s x t ho base e i z 1 bytes ht hi hz hsize hby hzs (by omega) v n xs hs hown ad news.length c news hx (by simp) (fun j u hu => ?_) h1 h63 hbytes hbase h
    obtain ⟨b, o', e, _, hc⟩ := hr.at_ hu
    injection e with e
    subst e
    have : (⟨b, o', none⟩ : Addr).add j = ⟨b, o' + j, none⟩ := by
      unfold Addr.add
      split
      · rename_i h; subst h; rfl
      · rfl
    rw [this]; exact hc

/-- An own row that isn't nil, by its block. -/
theorem own_row {w : World} {base : Nat} {e : TypeId} {v : Value} {n : Nat} {xs : List Value} (h : w.ownsRow base e 1 v n xs) (hv : v ≠ .slice none 0 0) :
    ∃ g cap f, v = .slice (some ⟨g, 0, none⟩) n cap ∧ base ≤ g ∧ g < w.heap.size ∧ n ≤ cap ∧ w.rowIs g e cap f ∧ ∀ i u, xs[i]? = some u → f i = u := by
  obtain ⟨h1, h2⟩ := h
  rcases h2 with ⟨rfl, _⟩ | ⟨g, cap, cur, rfl, hg, hh, hnc, hcm, hcs, hxs⟩
  · exact absurd rfl hv
  · refine ⟨g, cap, fun i => cur.toList.getD i undef, rfl, hg, ?_, hnc, ⟨cur, hh, by simpa using hcs, fun i hi => ?_⟩, fun i u hu => ?_⟩
    · rcases Nat.lt_or_ge g w.heap.size with h | h
      · exact h
      · rw [Array.getElem?_eq_none h] at hh; cases hh
    · have : i < cur.size := by omega
      simp [this]
    · subst hxs
      rw [List.getElem?_take] at hu
      split at hu
      · show cur.toList.getD i undef = u
        rw [List.getD_eq_getElem?_getD, hu]; rfl
      · cases hu

/-- For a region that draws its order: a callee that leaves the world alone. -/
theorem quiet_same {P : Program} {f : FuncId} {args : Array Value} {w : World} {n : Nat} {v : Value}
    (h : Calls P f args (w.drewN n) fun e w' => e = .returned v ∧ w.drewN n = w') : Calls P f args (w.drewN n) fun e w'' => e = .returned v ∧ ∃ m, w'' = w.drewN m :=
  h.mono fun _ _ ⟨he, hm⟩ => ⟨he, n, hm.symm⟩

/-- Two own rows lie in two blocks. -/
def Far (u v : Value) : Prop := ∀ g, u.ownBlock = some g → v.ownBlock ≠ some g
theorem Far.symm {u v : Value} (h : Far u v) : Far v u := fun g h1 h2 => h g h2 h1
theorem Far.keeps {u v : Value} (h : Far u v) : v.ownBlock = none ∨ v.ownBlock ≠ u.ownBlock := by
  cases hu : u.ownBlock with
  | none => cases hv : v.ownBlock <;> simp
  | some g => exact .inr (h g hu)
theorem own_lt {w : World} {base : Nat} {e : TypeId} {size : Nat} {v : Value} {n : Nat} {xs : List Value} (h : w.ownsRow base e size v n xs) : ∀ g, v.ownBlock = some g → g < w.heap.size := by
  intro g hg
  rcases h.2 with ⟨rfl, _⟩ | ⟨g', cap, cur, rfl, hgb, hh, _⟩
  · simp [Value.ownBlock] at hg
  · simp [Value.ownBlock] at hg
    subst hg
    rcases Nat.lt_or_ge g' w.heap.size with h | h
    · exact h
    · rw [Array.getElem?_eq_none h] at hh; cases hh
theorem Far.step {u u' v : Value} {w : World} (h : Far u v) {base : Nat} {e : TypeId} {size : Nat} {n : Nat} {xs : List Value} (hv : w.ownsRow base e size v n xs) (hu : u'.ownBlock = u.ownBlock ∨ u'.ownBlock = some w.heap.size) : Far u' v := by
  intro g hg hvg
  rcases hu with hu | hu
  · exact h g (hu ▸ hg) hvg
  · have := own_lt hv g hvg
    rw [hg] at hu
    injection hu with hu
    omega
theorem Far.nil (v : Value) : Far (.slice none 0 0) v := fun g h => by simp [Value.ownBlock] at h

/-- What an append onto the own row v (it is v' then) leaves: every old block but v's is as it was; v' lies where v did, or in a new block. -/
structure Grew (w w' : World) (v v' : Value) : Prop where
  os : w'.os = w.os
  tape : w'.tape = w.tape
  output : w'.output = w.output
  size : w.heap.size ≤ w'.heap.size
  block : ∀ g, g < w.heap.size → v.ownBlock ≠ some g → w'.heap[g]? = w.heap[g]?
  own : v'.ownBlock = v.ownBlock ∨ ∃ g, v'.ownBlock = some g ∧ w.heap.size ≤ g
theorem Grew.below {w0 w w' : World} {v v' : Value} (h : Grew w w' v v') {e : TypeId} {size n : Nat} {xs : List Value} {base : Nat} (hb : Below base w0 w) (hown : w.ownsRow base e size v n xs) (hbase : base ≤ w.heap.size) : Below base w0 w' :=
  hb.trans ⟨h.os, h.tape, h.output, h.size, fun k hk => h.block k (by omega) (fun hv => by have := own_block hown k hv; omega)⟩
theorem Grew.q {w0 w w' : World} {v v' : Value} (h : Grew w w' v v') (hq : Q w0 w) {e : TypeId} {size n : Nat} {xs : List Value} (hown : w.ownsRow w0.heap.size e size v n xs) : Q w0 w' := h.below hq hown hq.size
theorem Grew.keeps {w w' : World} {v v' u : Value} (h : Grew w w' v v') (hf : Far v u) {base : Nat} {e : TypeId} {size n : Nat} {xs : List Value} (hu : w.ownsRow base e size u n xs) : w'.ownsRow base e size u n xs := by
  obtain ⟨h1, h2⟩ := hu
  refine ⟨h1, ?_⟩
  rcases h2 with h2 | ⟨g, cap, cur, rfl, hg, hh, r⟩
  · exact .inl h2
  · refine .inr ⟨g, cap, cur, rfl, hg, ?_, r⟩
    have hlt : g < w.heap.size := by
      rcases Nat.lt_or_ge g w.heap.size with h | h
      · exact h
      · rw [Array.getElem?_eq_none h] at hh; cases hh
    rw [h.block g hlt (fun hv => hf g hv rfl)]; exact hh
theorem Grew.far {w w' : World} {v v' u : Value} (h : Grew w w' v v') (hf : Far v u) {base : Nat} {e : TypeId} {size n : Nat} {xs : List Value} (hu : w.ownsRow base e size u n xs) : Far v' u := by
  intro g hg hug
  rcases h.own with ho | ⟨g', ho, hge⟩
  · exact hf g (ho ▸ hg) hug
  · rw [hg] at ho
    injection ho with ho
    have := own_lt hu g hug
    omega
theorem Grew.cell {w w' : World} {v v' : Value} (h : Grew w w' v v') {p : Addr} (hp : p.block < w.heap.size) (hv : v.ownBlock ≠ some p.block) : w'.cell? p = w.cell? p := World.cell?_of_block (w := w) (h.block p.block hp hv)
theorem Grew.sees {w w' : World} {v v' : Value} (h : Grew w w' v v') {ok : Nat → Prop} {A : Option Addr} {xs : List Value} (hs : SeesP w ok A xs) (hok : ∀ b, ok b → b < w.heap.size ∧ v.ownBlock ≠ some b) : SeesP w' ok A xs :=
  hs.keep fun _ hp => h.cell (hok _ hp).1 (hok _ hp).2

/-- append of one element that was just built. -/
theorem wpList_append_one {P : Program} {w : World} {ops : Array Oper} {rest : List Oper} {o : Oper} {a : Act} {K : Exit → Act → World → Prop} (hgd : o.guard = none) (s x : Operand) (t : TypeId)
    (ho : o.op = .call { callee := .builtin .append, args := #[s, x], argTypes := #[t, t] })
    (base : Nat) (e : TypeId) (i : TypeInfo) (z : Value) (bytes : Nat) (ht : P.underlying t = some (.slice e)) (hi : P.info? e = some i) (hz : i.zero = some z)
    (hsize : i.size = 1) (hby : i.bytes = bytes) (hzs : z.cells.size = 1)
    (v : Value) (n : Nat) (xs : List Value) (hs : a.eval s = v) (hown : w.ownsRow base e 1 v n xs)
    (u : Value) (t' : TypeId) (g : Nat) (hg : g = w.heap.size) (hx : a.eval x = .slice (some ⟨g, 0, none⟩) 1 1) (h1 : u.oneCell' = true)
    (h63 : n + 1 ≤ maxLen) (hbytes : (n + 1) * bytes ≤ 140737488355328) (hbase : base ≤ w.heap.size)
    (h : ∀ v' w', w'.ownsRow base e 1 v' (n + 1) (xs ++ [u]) → Grew w w' v v' → v' ≠ .slice none 0 0 → wpList P ops K rest (a.put o.dst v') w') : wpList P ops K (o :: rest) a (w.alloc (.cells #[u] t')) := by
  subst hg
  refine wpList_append_own_at _ hgd s x t ho base e i z 1 bytes ht hi hz hsize hby hzs (by omega) v n xs hs (hown.alloc _) ⟨w.heap.size, 0, none⟩ 1 1 [u] hx rfl (one_cell w u t') (by intro y hy; simp at hy; subst hy; exact h1) h63 hbytes (by simp; omega) (fun v' w' h2 h3 h4 h5 => h v' w' h2 ⟨?_, ?_, ?_, ?_, fun g hg hv => ?_, ?_⟩ (fun hv => by have := (h4.1 hv).2; omega))
  · exact h3.os
  · exact h3.tape
  · exact h3.output
  · have := h3.size; simp at this; omega
  · rw [h3.block g (by simp; omega) (fun e => hv e.symm)]
    exact Below.heap_alloc _ _ _ hg
  · rcases h5 with h5 | h5
    · exact .inl h5
    · exact .inr ⟨_, h5, by simp⟩

/-- An operation whose guard says yes is as one without a guard. -/
theorem guard_off {P : Program} {w : World} {ops : Array Oper} {rest : List Oper} {o : Oper} {a : Act} {K : Exit → Act → World → Prop} (hw : Region.wanted o (yielded ops a.tmps) = true)
    (h : wpList P ops K ({ o with guard := none } :: rest) a w) : wpList P ops K (o :: rest) a w := by
  unfold wpList at h ⊢
  rw [if_pos (show Region.wanted { o with guard := none } (yielded ops a.tmps) = true from rfl)] at h
  rw [if_pos hw]; exact h
theorem own_below {w w' : World} {base B : Nat} {e : TypeId} {size n : Nat} {v : Value} {xs : List Value} (h : w.ownsRow base e size v n xs) (hb : Below B w w') (hB : w.heap.size ≤ B := by first | exact Nat.le_refl _ | assumption) : w'.ownsRow base e size v n xs := by
  have hlt := own_lt h
  obtain ⟨h1, h2⟩ := h
  refine ⟨h1, ?_⟩
  rcases h2 with h2 | ⟨g, cap, cur, rfl, hg, hh, r⟩
  · exact .inl h2
  · have := hlt g rfl
    exact .inr ⟨g, cap, cur, rfl, hg, by rw [hb.block g (by omega)]; exact hh, r⟩
end Go.Proofs.Ytffpaeljnfmmiaa
