/- A drawn region that puts a new row together: append(append(append([]T{}, a...), b...), c...): the row's history as the thing that is turned. -/
import Derived.Test.YtffenfhbiapefaaNfw
import Derived.Test.YtffenfhbiapefaaRegx
import Derived.Test.YtffenfhbiapefaaSl
namespace Go.Proofs.Ytffenfhbiapefaa
set_option linter.unusedVariables false
set_option linter.unusedSimpArgs false
open Go.RowKit

theorem run_append_any {P : Program} (w : World) (t ty : TypeId) (base : Nat) (e : TypeId) (i : TypeInfo) (z : Value) (size bytes : Nat) (ht : P.underlying t = some (.slice e)) (hi : P.info? e = some i) (hz : i.zero = some z)
    (hsize : i.size = size) (hby : i.bytes = bytes) (hzs : z.cells.size = size) (hpos : 0 < size)
    (v : Value) (n : Nat) (xs : List Value) (hown : w.ownsRow base e size v n xs)
    (ok : Nat → Prop) (A : Option Addr) (m c : Nat) (news : List Value) (hA : A = none → c = 0) (hl : news.length = m * size) (hr : SeesP w ok A news) (h1 : ∀ u ∈ news, u.oneCell' = true)
    (h63 : n + m ≤ maxLen) (hbytes : (n + m) * bytes ≤ 140737488355328) (hbase : base ≤ w.heap.size) :
    ∃ v' w', (Builtin.append_ #[t, t] ty #[v, .slice A m c]).run P w = .ok v' w' ∧ w'.ownsRow base e size v' (n + m) (xs ++ news) ∧ Grew w w' v v' := by
  rcases A with _ | ad
  · have hn : news = [] := by
      rcases Classical.em (news = []) with h | h
      · exact h
      · obtain ⟨b, o', e, _⟩ := hr h; cases e
    subst hn
    have hm : m = 0 := by
      rcases Nat.eq_zero_or_pos m with h | h
      · exact h
      · have := Nat.mul_pos h hpos
        rw [← hl] at this
        simp at this
    subst hm
    have hc := hA rfl
    subst hc
    exact ⟨v, w, run_append_owned_none (P := P) (w := w) base t ty e i size ht hi v n xs hown, by simpa using hown, rfl, rfl, rfl, Nat.le_refl _, fun _ _ _ => rfl, .inl rfl⟩
  · obtain ⟨v', w', hr', h2, h3, _, h5⟩ := run_append_own_at (P := P) w base t ty e i z size bytes ht hi hz hsize hby hzs hpos v n xs hown ad m c news hl (fun j u hu => by
      obtain ⟨b, o', e, _, hc⟩ := hr.at_ hu
      injection e with e
      subst e
      rw [add_addr]; exact hc) h1 h63 hbytes hbase
    refine ⟨v', w', hr', h2, h3.os, h3.tape, h3.output, h3.size, fun g hg hv => h3.block g hg (fun e => hv e.symm), ?_⟩
    rcases h5 with h5 | h5
    · exact .inl h5
    · exact .inr ⟨_, h5, Nat.le_refl _⟩
theorem does_append {P : Program} {w : World} {o : Oper} {a : Act} {Post : Value → World → Prop} (s x : Operand) (t : TypeId)
    (ho : o.op = .call { callee := .builtin .append, args := #[s, x], argTypes := #[t, t] })
    (base : Nat) (e : TypeId) (i : TypeInfo) (z : Value) (size bytes : Nat) (ht : P.underlying t = some (.slice e)) (hi : P.info? e = some i) (hz : i.zero = some z)
    (hsize : i.size = size) (hby : i.bytes = bytes) (hzs : z.cells.size = size) (hpos : 0 < size)
    (v : Value) (n : Nat) (xs : List Value) (hs : a.eval s = v) (hown : w.ownsRow base e size v n xs)
    (ok : Nat → Prop) (A : Option Addr) (m c : Nat) (news : List Value) (hx : a.eval x = .slice A m c) (hA : A = none → c = 0) (hl : news.length = m * size) (hr : SeesP w ok A news) (h1 : ∀ u ∈ news, u.oneCell' = true)
    (h63 : n + m ≤ maxLen) (hbytes : (n + m) * bytes ≤ 140737488355328) (hbase : base ≤ w.heap.size)
    (h : ∀ v' w', w'.ownsRow base e size v' (n + m) (xs ++ news) → Grew w w' v v' → Post v' w') : OpDoes P o a w Post := by
  obtain ⟨v', w', hr', h2, h3⟩ := run_append_any (P := P) w t o.type base e i z size bytes ht hi hz hsize hby hzs hpos v n xs hown ok A m c news hA hl hr h1 h63 hbytes hbase
  refine OpDoes.run (v := v') (w' := w') ?_ (h v' w' h2 h3)
  unfold execOp
  simp only [ho, resolve, invoke, builtin, Sem.run_bind, Sem.run_pure, Result.andThen_ok, List.map_toArray, List.map_cons, List.map_nil, hs, hx, hr']
theorem run_slice_hi_ok {P : Program} {o : Oper} {a : Act} (x hi : Operand) {t e : TypeId} (ho : o.op = .slice t x none (some hi) none) (ht : P.underlying t = some (.slice e)) {i : TypeInfo} (hi0 : P.info? e = some i)
    {A : Option Addr} {n c : Nat} (hx : a.eval x = .slice A n c) {k : IntKind} {h : Nat} (hh : a.eval hi = .int k (h : Int)) (hc : h ≤ c) (w : World) : (execOp a.eval o).run P w = .ok (.value (.slice A h c)) w := by
  have he : P.elem t = e := by simp [Program.elem, ht]
  have ht' : P.underlying t = some (.slice (P.elem t)) := by rw [he]; exact ht
  have h1 : (Instr.sliceAt t (.slice A n c) none (some (.int k (h : Int))) none).run P w = .ok (.slice A h c) w := by
    rw [run_sliceAt_slice w t _ _ _ _ ht', run_slice_h w t A n c ht' k h (by omega) (by omega), he, size_run hi0]
    have := cutA_zero A c i.size
    simp only [Result.andThen, sliced]
    unfold cutA at this
    rw [this]; simp
  unfold execOp
  simp only [ho, hx, hh, Option.map, Sem.run_bind, h1, Result.andThen_ok, Sem.run_pure]
theorem run_slice_lo_ok {P : Program} {o : Oper} {a : Act} (x lo : Operand) {t e : TypeId} (ho : o.op = .slice t x (some lo) none none) (ht : P.underlying t = some (.slice e)) {i : TypeInfo} (hi0 : P.info? e = some i) {s : Nat} (hs : i.size = s)
    {A : Option Addr} {n c : Nat} (hx : a.eval x = .slice A n c) {k : IntKind} {l : Nat} (hl : a.eval lo = .int k (l : Int)) (hc : l ≤ n) (w : World) : (execOp a.eval o).run P w = .ok (.value (.slice (cutA A c l s) (n - l) (c - l))) w := by
  have he : P.elem t = e := by simp [Program.elem, ht]
  have ht' : P.underlying t = some (.slice (P.elem t)) := by rw [he]; exact ht
  have h1 : (Instr.sliceAt t (.slice A n c) (some (.int k (l : Int))) none none).run P w = .ok (.slice (cutA A c l s) (n - l) (c - l)) w := by
    rw [run_sliceAt_slice w t _ _ _ _ ht', run_slice_l w t A n c ht' k l (by omega) (by omega), he, size_run hi0, hs]
    simp only [Result.andThen, sliced, Int.toNat_natCast]
    rfl
  unfold execOp
  simp only [ho, hx, hl, Option.map, Sem.run_bind, h1, Result.andThen_ok, Sem.run_pure]
theorem run_row_nord {op : Oper} {a : Act} (ho : op.op = .buildSlice 29 0 #[]) (w : World) :
    (execOp a.eval op).run Try.prog w = .ok (.value (.slice (some ⟨w.heap.size, 0, none⟩) 0 0)) (w.alloc (.cells #[] 26)) := by
  have h1 : (Instr.buildSlice 29 0 #[]).run Try.prog w = .ok (.slice (some ⟨w.heap.size, 0, none⟩) 0 0) (w.alloc (.cells #[] 26)) := by kernel_rfl
  unfold execOp
  simp only [ho, List.map_toArray, List.map_nil, Sem.run_bind, h1, Result.andThen_ok, Sem.run_pure]
theorem own_nilS {w : World} {base : Nat} {e : TypeId} {n m c size : Nat} {A : Option Addr} {xs : List Value} (h : w.ownsRow base e size (.slice A m c) n xs) : A = none → c = 0 := by
  rintro rfl
  rcases h.2 with ⟨h1, _⟩ | ⟨g, cap, cur, h1, _⟩
  · injection h1
  · injection h1 with h1; cases h1
theorem own_capS {w : World} {base : Nat} {e : TypeId} {n m c size : Nat} {A : Option Addr} {xs : List Value} (h : w.ownsRow base e size (.slice A m c) n xs) : m ≤ c ∧ m = n := by
  rcases h.2 with ⟨h1, h2⟩ | ⟨g, cap, cur, h1, _, _, h3, _⟩
  · injection h1 with h1 h4 h5; omega
  · injection h1 with h1 h4 h5; omega
/-- The last of a row's history. -/
def lastV (v : List Value) : Value := v.getLastD (.slice none 0 0)
theorem lastV_push (v : List Value) (u : Value) : lastV (v ++ [u]) = u := by simp [lastV]
structure InsJ (wc : World) (T : TypeId) (lst : Nat → List NdIn) (c : Nat) (v : List Value) (w : World) : Prop where
  len : v.length = c
  row : RowN wc w T (lastV v) (lst c)
def InsGh (v : List Value) (w : World) (v' : List Value) (w' : World) : Prop := ∃ u, v' = v ++ [u] ∧ Grew w w' (lastV v) u
theorem InsJ.q {wc w w' : World} {T : TypeId} {lst : Nat → List NdIn} {c : Nat} {v : List Value} (h : InsJ wc T lst c v w) (hq : Below w.heap.size w w') : InsJ wc T lst c v w' := ⟨h.len, h.row.step hq⟩
theorem InsJ.app {wc w w' : World} {T : TypeId} {lst : Nat → List NdIn} {c : Nat} {v : List Value} {u : Value} (h : InsJ wc T lst c v w) (hgr : Grew w w' (lastV v) u) (hown : w'.ownsRow wc.heap.size T 39 u (lst (c + 1)).length (ndsL (lst (c + 1)))) :
    InsGh v w (v ++ [u]) w' ∧ InsJ wc T lst (c + 1) (v ++ [u]) w' ∧ (v ++ [u])[c]? = some u :=
  ⟨⟨u, rfl, hgr⟩, ⟨by simp [h.len], by rw [lastV_push]; exact hown, hgr.q h.row.q h.row.own⟩, by rw [List.getElem?_append_right (by rw [h.len]; exact Nat.le_refl _), h.len]; simp⟩
theorem InsJ.made {wc w : World} {T : TypeId} {lst : Nat → List NdIn} {v : List Value} (h : InsJ wc T lst 0 v w) (h0 : lst 0 = []) (h1 : lst 1 = []) :
    InsGh v w (v ++ [.slice (some ⟨w.heap.size, 0, none⟩) 0 0]) (w.alloc (.cells #[] T)) ∧ InsJ wc T lst 1 (v ++ [.slice (some ⟨w.heap.size, 0, none⟩) 0 0]) (w.alloc (.cells #[] T)) ∧ (v ++ [.slice (some ⟨w.heap.size, 0, none⟩) 0 0])[0]? = some (.slice (some ⟨w.heap.size, 0, none⟩) 0 0) := by
  have hx := Ext.of_alloc w (.cells #[] T)
  refine h.app (c := 0) ⟨hx.os, hx.tape, hx.output, by simp, fun g hg _ => hx.block g hg, .inr ⟨w.heap.size, rfl, Nat.le_refl _⟩⟩ ?_
  rw [h1]
  have h2 := World.ownsRow_lit (e := T) (size := 39) w #[] 0 h.row.q.size (Nat.zero_le _) rfl
  simpa [ndsL] using h2
/-- A row of one node, just made: it lies elsewhere than the row that is put together. -/
def OneBox (cs : List Value) (u : Value) (v : List Value) (w : World) : Prop := ∃ g, u = .slice (some ⟨g, 0, none⟩) 1 1 ∧ g < w.heap.size ∧ (lastV v).ownBlock ≠ some g ∧ SeesP w (· = g) (some ⟨g, 0, none⟩) cs
theorem OneBox.q {cs : List Value} (u : Value) (v : List Value) (w w' : World) (h : OneBox cs u v w) (hq : Below w.heap.size w w') : OneBox cs u v w' := by
  obtain ⟨g, h1, h2, h3, h4⟩ := h
  exact ⟨g, h1, Nat.lt_of_lt_of_le h2 hq.size, h3, h4.belowP (fun b hb => hb ▸ h2) hq⟩
theorem OneBox.g {cs : List Value} (u : Value) (v : List Value) (w : World) (v' : List Value) (w' : World) (h : OneBox cs u v w) (hg : InsGh v w v' w') : OneBox cs u v' w' := by
  obtain ⟨g, h1, h2, h3, h4⟩ := h
  obtain ⟨x, rfl, hgr⟩ := hg
  refine ⟨g, h1, Nat.lt_of_lt_of_le h2 hgr.size, ?_, hgr.sees h4 fun b hb => by subst hb; exact ⟨h2, h3⟩⟩
  rw [lastV_push]
  rcases hgr.own with h | ⟨g', h, hge⟩
  · rw [h]; exact h3
  · rw [h]; intro e; injection e with e; omega
theorem OneBox.new {cs : List Value} {w : World} {v : List Value} {T : TypeId} (h : ∀ g, (lastV v).ownBlock = some g → g < w.heap.size) : OneBox cs (.slice (some ⟨w.heap.size, 0, none⟩) 1 1) v (w.alloc (.cells cs.toArray T)) :=
  ⟨w.heap.size, rfl, by simp, fun e => by have := h _ e; omega, sees_new w cs T _ rfl⟩
theorem hist_q (k : Nat) (u : Value) (v : List Value) (w w' : World) (h : v[k]? = some u) (_ : Below w.heap.size w w') : v[k]? = some u := h
theorem hist_g (k : Nat) (u : Value) (v : List Value) (w : World) (v' : List Value) (w' : World) (h : v[k]? = some u) (hg : InsGh v w v' w') : v'[k]? = some u := by
  obtain ⟨x, rfl, _⟩ := hg
  rw [List.getElem?_append_left (List.getElem?_eq_some_iff.1 h).1]; exact h
theorem hist_last {c : Nat} {u : Value} {v : List Value} (hl : v.length = c + 1) (h : v[c]? = some u) : lastV v = u := by
  unfold lastV
  rw [List.getLastD_eq_getLast?, List.getLast?_eq_getElem?, hl, Nat.add_sub_cancel, h]; rfl
end Go.Proofs.Ytffenfhbiapefaa
