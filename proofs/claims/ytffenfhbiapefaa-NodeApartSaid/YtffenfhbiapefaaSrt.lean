/- The plain law of sorted: nodes in form, by rising names, each name once. -/
import Derived.Test.YtffenfhbiapefaaNfw
import Derived.Test.YtffenfhbiapefaaEnp
import Derived.Sort.Walk0
import Derived.Test.YtffenfhbiapefaaRegz
import Derived.Test.YtffenfhbiapefaaSl
import Derived.Test.YtffenfhbiapefaaNrc
import Derived.Deep.CutBlock
import Derived.Deep.DeepCutAuto
namespace Go.Proofs.Ytffenfhbiapefaa
set_option linter.unusedVariables false
set_option linter.unusedSimpArgs false
open Go.RowKit

section
/-- Is a name less than another? -/
def ltS (a b : ByteArray) : Bool := Op.bytesLess a.toList b.toList
theorem ltS_eq (a b : ByteArray) : ltS a b = decide (a.toList < b.toList) := by unfold ltS; exact Proofs.bytesLess_eq _ _
theorem toList_inj {a b : ByteArray} (h : a.toList = b.toList) : a = b := by
  rw [Lib.toList_data, Lib.toList_data] at h
  cases a; cases b
  simp only at h
  congr 1
  exact Array.toList_inj.1 h
theorem ltS_irrefl (a : ByteArray) : ltS a a = false := by
  rw [ltS_eq]
  exact decide_eq_false (List.lt_irrefl _)
theorem ltS_trans {a b c : ByteArray} (h : ltS a b = true) (k : ltS b c = true) : ltS a c = true := by
  rw [ltS_eq, decide_eq_true_eq] at *
  exact List.lt_trans h k
theorem ltS_tri {a b : ByteArray} (h : ltS a b = false) (k : a ≠ b) : ltS b a = true := by
  rw [ltS_eq, decide_eq_false_iff_not] at h
  rw [ltS_eq, decide_eq_true_eq]
  rcases Classical.em (b.toList < a.toList) with h1 | h1
  · exact h1
  · exact absurd (toList_inj (List.le_antisymm (List.not_lt.1 h1) (List.not_lt.1 h))) k
theorem leS_of_lt {a b : ByteArray} (h : ltS a b = true) : leS b a = false := by
  have h2 : ltS b a = false := by
    cases h3 : ltS b a with
    | false => rfl
    | true => have := ltS_trans h h3; rw [ltS_irrefl] at this; cases this
  unfold leS
  unfold ltS at h2
  rw [h2, Bool.false_or]
  cases h3 : (b.toList == a.toList) with
  | false => rfl
  | true =>
    have : b = a := toList_inj (by simpa using h3)
    subst this
    rw [ltS_irrefl] at h; cases h
theorem leS_of_lt2 {a b : ByteArray} (h : ltS a b = true) : leS a b = true := by
  unfold leS; unfold ltS at h; rw [h]; rfl
theorem leS_refl (a : ByteArray) : leS a a = true := by unfold leS; simp

/-- How many of a row come ahead of a name. -/
def placeN (out : List NdIn) (z : NdIn) : Nat := (out.takeWhile fun y => ltS y.n.name z.n.name).length
def isAt (out : List NdIn) (z : NdIn) (k : Nat) : Bool := match out[k]? with | none => false | some y => decide (y.n.name = z.n.name)
def putN (out : List NdIn) (z : NdIn) : List NdIn :=
  if checkN z.n ≠ 0 then out else if isAt out z (placeN out z) then out else out.take (placeN out z) ++ [z] ++ out.drop (placeN out z)
def sortN (zs : List NdIn) : List NdIn := zs.foldl putN []
theorem placeN_le (out : List NdIn) (z : NdIn) : placeN out z ≤ out.length := (List.takeWhile_prefix _).length_le
theorem takeWhile_at {α : Type} (p : α → Bool) : ∀ (l : List α) (k : Nat) (h : k < l.length), (∀ j (hj : j < k), p (l[j]'(by omega)) = true) → p l[k] = false → (l.takeWhile p).length = k
  | x :: l, 0, _, _, h0 => by simp at h0; simp [h0]
  | x :: l, k + 1, h, hp, h0 => by
    have hx : p x = true := hp 0 (by omega)
    rw [List.takeWhile_cons_of_pos hx, List.length_cons, takeWhile_at p l k (by simpa using h) (fun j hj => by simpa using hp (j + 1) (by omega)) (by simpa using h0)]
theorem takeWhile_all {α : Type} (p : α → Bool) : ∀ (l : List α), (∀ j (hj : j < l.length), p l[j] = true) → (l.takeWhile p).length = l.length
  | [], _ => rfl
  | x :: l, hp => by
    have hx : p x = true := hp 0 (by simp)
    rw [List.takeWhile_cons_of_pos hx, List.length_cons, takeWhile_all p l (fun j hj => hp (j + 1) (by simp; omega)), List.length_cons]
theorem takeWhile_lt {α : Type} (p : α → Bool) : ∀ (l : List α) (j : Nat) (h : j < l.length), j < (l.takeWhile p).length → p l[j] = true
  | x :: l, j, h, hj => by
    cases hx : p x with
    | false => rw [List.takeWhile_cons_of_neg (by simp [hx])] at hj; simp at hj
    | true =>
      rw [List.takeWhile_cons_of_pos hx] at hj
      cases j with
      | zero => exact hx
      | succ j => simpa using takeWhile_lt p l j (by simpa using h) (by simpa using hj)
theorem takeWhile_end {α : Type} (p : α → Bool) : ∀ (l : List α) (h : (l.takeWhile p).length < l.length), p (l[(l.takeWhile p).length]'h) = false
  | x :: l, h => by
    cases hx : p x with
    | false =>
      have e : (x :: l).takeWhile p = [] := List.takeWhile_cons_of_neg (by simp [hx])
      simp [e, hx]
    | true =>
      have e : (x :: l).takeWhile p = x :: l.takeWhile p := List.takeWhile_cons_of_pos hx
      simp only [e, List.length_cons, List.getElem_cons_succ]
      exact takeWhile_end p l (by rw [e] at h; simpa using h)
theorem putN_mem {out : List NdIn} {z y : NdIn} (h : y ∈ putN out z) : y ∈ out ∨ (y = z ∧ checkN z.n = 0) := by
  unfold putN at h
  split at h
  · exact .inl h
  · rename_i hc
    split at h
    · exact .inl h
    · rw [List.mem_append, List.mem_append] at h
      rcases h with (h | h) | h
      · exact .inl (List.mem_of_mem_take h)
      · exact .inr ⟨List.mem_singleton.1 h, Classical.not_not.1 hc⟩
      · exact .inl (List.mem_of_mem_drop h)
theorem putN_len (out : List NdIn) (z : NdIn) : (putN out z).length ≤ out.length + 1 := by
  unfold putN
  split
  · omega
  · split
    · omega
    · have := placeN_le out z
      simp only [List.length_append, List.length_take, List.length_drop, List.length_singleton]
      omega
/-- Names rise. -/
def Rises (l : List NdIn) : Prop := ∀ i j (hi : i < l.length) (hj : j < l.length), i < j → ltS l[i].n.name l[j].n.name = true
theorem putN_rises {out : List NdIn} (z : NdIn) (h : Rises out) : Rises (putN out z) := by
  unfold putN
  split
  · exact h
  · split
    · exact h
    · rename_i hc hat
      have hle := placeN_le out z
      have hb : ∀ j (hj : j < out.length), j < placeN out z → ltS out[j].n.name z.n.name = true := fun j hj hp => takeWhile_lt _ out j hj hp
      have ha : ∀ j (hj : j < out.length), placeN out z ≤ j → ltS z.n.name out[j].n.name = true := fun j hj hp => by
        have hlt : placeN out z < out.length := by omega
        have h0 : ltS out[placeN out z].n.name z.n.name = false := takeWhile_end (fun y : NdIn => ltS y.n.name z.n.name) out hlt
        have hne : out[placeN out z].n.name ≠ z.n.name := fun e => hat (by unfold isAt; rw [List.getElem?_eq_getElem hlt]; show decide _ = true; exact decide_eq_true e)
        have h1 := ltS_tri h0 hne
        rcases Nat.lt_or_ge (placeN out z) j with h2 | h2
        · exact ltS_trans h1 (h _ _ hlt hj h2)
        · have : placeN out z = j := by omega
          subst this; exact h1
      generalize placeN out z = p at *
      have hg : ∀ i (hi : i < (out.take p ++ [z] ++ out.drop p).length), (out.take p ++ [z] ++ out.drop p)[i] = if hp : i < p then out[i]'(by omega) else if hq : i = p then z else out[i - 1]'(by simp at hi; omega) := fun i hi => by
        have hl : (out.take p ++ [z]).length = p + 1 := by simp; omega
        split
        · rename_i hp
          rw [List.getElem_append_left (by omega), List.getElem_append_left (by simp; omega), List.getElem_take]
        · rename_i hp
          split
          · rename_i hq
            subst hq
            rw [List.getElem_append_left (by omega), List.getElem_append_right (by simp; omega)]
            simp
          · rename_i hq
            rw [List.getElem_append_right (by omega), List.getElem_drop]
            congr 1
            omega
      intro i j hi hj hij
      have hlen : (out.take p ++ [z] ++ out.drop p).length = out.length + 1 := by simp; omega
      rw [hg i hi, hg j hj]
      by_cases h1 : j < p
      · rw [dif_pos h1, dif_pos (by omega)]; exact h _ _ _ _ hij
      · rw [dif_neg h1]
        by_cases h2 : j = p
        · rw [dif_pos h2, dif_pos (by omega)]; exact hb i (by omega) (by omega)
        · rw [dif_neg h2]
          by_cases h3 : i < p
          · rw [dif_pos h3]; exact h _ _ _ _ (by omega)
          · rw [dif_neg h3]
            by_cases h4 : i = p
            · rw [dif_pos h4]; exact ha _ _ (by omega)
            · rw [dif_neg h4]; exact h _ _ _ _ (by omega)
theorem sortN_all (zs : List NdIn) : (∀ y ∈ sortN zs, y ∈ zs ∧ checkN y.n = 0) ∧ (sortN zs).length ≤ zs.length ∧ Rises (sortN zs) := by
  have h : ∀ (zs out : List NdIn), Rises out → (∀ y ∈ zs.foldl putN out, y ∈ out ∨ (y ∈ zs ∧ checkN y.n = 0)) ∧ (zs.foldl putN out).length ≤ out.length + zs.length ∧ Rises (zs.foldl putN out) := by
    intro zs
    induction zs with
    | nil => intro out hr; exact ⟨fun y hy => .inl hy, by simp, hr⟩
    | cons z zs ih =>
      intro out hr
      obtain ⟨h1, h2, h3⟩ := ih (putN out z) (putN_rises z hr)
      refine ⟨fun y hy => ?_, ?_, h3⟩
      · rcases h1 y hy with h | h
        · rcases putN_mem h with h | ⟨rfl, h⟩
          · exact .inl h
          · exact .inr ⟨by simp, h⟩
        · exact .inr ⟨List.mem_cons_of_mem _ h.1, h.2⟩
      · have := putN_len out z
        simp only [List.foldl_cons, List.length_cons] at h2 ⊢
        omega
  obtain ⟨h1, h2, h3⟩ := h zs [] (fun i j hi => absurd hi (by simp))
  refine ⟨fun y hy => ?_, by simpa [sortN] using h2, h3⟩
  rcases h1 y hy with h | h
  · cases h
  · exact h
theorem sortN_take {zs : List NdIn} {k : Nat} (hk : k < zs.length) : sortN (zs.take (k + 1)) = putN (sortN (zs.take k)) zs[k] := by
  unfold sortN
  rw [List.take_succ_eq_append_getElem hk, List.foldl_append]
  rfl
end

section
theorem run_append_any {P : Program} (w : World) (t ty : TypeId) (base : Nat) (e : TypeId) (i : TypeInfo) (z : Value) (size bytes : Nat) (ht : P.underlying t = some (.slice e)) (hi : P.info? e = some i) (hz : i.zero = some z)
    (hsize : i.size = size) (hby : i.bytes = bytes) (hzs : z.cells.size = size) (hpos : 0 < size)
    (v : Value) (n : Nat) (xs : List Value) (hown : w.ownsRow base e size v n xs)
    (ok : Nat → Prop) (A : Option Addr) (m c : Nat) (news : List Value) (hA : A = none → c = 0) (hl : news.length = m * size) (hr : SeesP w ok A news) (h1 : ∀ u ∈ news, u.oneCell' = true)
    (h63 : n + m ≤ maxLen) (hbytes : (n + m) * bytes ≤ 140737488355328) (hbase : base ≤ w.heap.size) :
    ∃ v' w', (Builtin.append_ #[t, t] ty #[v, .slice A m c]).run P w = .ok v' w' ∧ w'.ownsRow base e size v' (n + m) (xs ++ news) ∧ Grew w w' v v' := by
  rcases A with _ | ad
  · have hn : news = [] := by
      rcases Classical.em (news = []) with h | h
      · exact h
      · obtain ⟨b, o', e, _⟩ := hr h; cases e
    subst hn
    have hm : m = 0 := by
      rcases Nat.eq_zero_or_pos m with h | h
      · exact h
      · have := Nat.mul_pos h hpos
        rw [← hl] at this
        simp at this
    subst hm
    have hc := hA rfl
    subst hc
    exact ⟨v, w, run_append_owned_none (P := P) (w := w) base t ty e i size ht hi v n xs hown, by simpa using hown, rfl, rfl, rfl, Nat.le_refl _, fun _ _ _ => rfl, .inl rfl⟩
  · obtain ⟨v', w', hr', h2, h3, _, h5⟩ := run_append_own_at (P := P) w base t ty e i z size bytes ht hi hz hsize hby hzs hpos v n xs hown ad m c news hl (fun j u hu => by
      obtain ⟨b, o', e, _, hc⟩ := hr.at_ hu
      injection e with e
      subst e
      rw [add_addr]; exact hc) h1 h63 hbytes hbase
    refine ⟨v', w', hr', h2, h3.os, h3.tape, h3.output, h3.size, fun g hg hv => h3.block g hg (fun e => hv e.symm), ?_⟩
    rcases h5 with h5 | h5
    · exact .inl h5
    · exact .inr ⟨_, h5, Nat.le_refl _⟩
theorem does_append {P : Program} {w : World} {o : Oper} {a : Act} {Post : Value → World → Prop} (s x : Operand) (t : TypeId)
    (ho : o.op = .call { callee := .builtin .append, args := #[s, x], argTypes := #[t, t] })
    (base : Nat) (e : TypeId) (i : TypeInfo) (z : Value) (size bytes : Nat) (ht : P.underlying t = some (.slice e)) (hi : P.info? e = some i) (hz : i.zero = some z)
    (hsize : i.size = size) (hby : i.bytes = bytes) (hzs : z.cells.size = size) (hpos : 0 < size)
    (v : Value) (n : Nat) (xs : List Value) (hs : a.eval s = v) (hown : w.ownsRow base e size v n xs)
    (ok : Nat → Prop) (A : Option Addr) (m c : Nat) (news : List Value) (hx : a.eval x = .slice A m c) (hA : A = none → c = 0) (hl : news.length = m * size) (hr : SeesP w ok A news) (h1 : ∀ u ∈ news, u.oneCell' = true)
    (h63 : n + m ≤ maxLen) (hbytes : (n + m) * bytes ≤ 140737488355328) (hbase : base ≤ w.heap.size)
    (h : ∀ v' w', w'.ownsRow base e size v' (n + m) (xs ++ news) → Grew w w' v v' → Post v' w') : OpDoes P o a w Post := by
  obtain ⟨v', w', hr', h2, h3⟩ := run_append_any (P := P) w t o.type base e i z size bytes ht hi hz hsize hby hzs hpos v n xs hown ok A m c news hA hl hr h1 h63 hbytes hbase
  refine OpDoes.run (v := v') (w' := w') ?_ (h v' w' h2 h3)
  unfold execOp
  simp only [ho, resolve, invoke, builtin, Sem.run_bind, Sem.run_pure, Result.andThen_ok, List.map_toArray, List.map_cons, List.map_nil, hs, hx, hr']
theorem run_slice_hi_ok {P : Program} {o : Oper} {a : Act} (x hi : Operand) {t e : TypeId} (ho : o.op = .slice t x none (some hi) none) (ht : P.underlying t = some (.slice e)) {i : TypeInfo} (hi0 : P.info? e = some i)
    {A : Option Addr} {n c : Nat} (hx : a.eval x = .slice A n c) {k : IntKind} {h : Nat} (hh : a.eval hi = .int k (h : Int)) (hc : h ≤ c) (w : World) : (execOp a.eval o).run P w = .ok (.value (.slice A h c)) w := by
  have he : P.elem t = e := by simp [Program.elem, ht]
  have ht' : P.underlying t = some (.slice (P.elem t)) := by rw [he]; exact ht
  have h1 : (Instr.sliceAt t (.slice A n c) none (some (.int k (h : Int))) none).run P w = .ok (.slice A h c) w := by
    rw [run_sliceAt_slice w t _ _ _ _ ht', run_slice_h w t A n c ht' k h (by omega) (by omega), he, size_run hi0]
    have := cutA_zero A c i.size
    simp only [Result.andThen, sliced]
    unfold cutA at this
    rw [this]; simp
  unfold execOp
  simp only [ho, hx, hh, Option.map, Sem.run_bind, h1, Result.andThen_ok, Sem.run_pure]
theorem run_slice_lo_ok {P : Program} {o : Oper} {a : Act} (x lo : Operand) {t e : TypeId} (ho : o.op = .slice t x (some lo) none none) (ht : P.underlying t = some (.slice e)) {i : TypeInfo} (hi0 : P.info? e = some i) {s : Nat} (hs : i.size = s)
    {A : Option Addr} {n c : Nat} (hx : a.eval x = .slice A n c) {k : IntKind} {l : Nat} (hl : a.eval lo = .int k (l : Int)) (hc : l ≤ n) (w : World) : (execOp a.eval o).run P w = .ok (.value (.slice (cutA A c l s) (n - l) (c - l))) w := by
  have he : P.elem t = e := by simp [Program.elem, ht]
  have ht' : P.underlying t = some (.slice (P.elem t)) := by rw [he]; exact ht
  have h1 : (Instr.sliceAt t (.slice A n c) (some (.int k (l : Int))) none none).run P w = .ok (.slice (cutA A c l s) (n - l) (c - l)) w := by
    rw [run_sliceAt_slice w t _ _ _ _ ht', run_slice_l w t A n c ht' k l (by omega) (by omega), he, size_run hi0, hs]
    simp only [Result.andThen, sliced, Int.toNat_natCast]
    rfl
  unfold execOp
  simp only [ho, hx, hl, Option.map, Sem.run_bind, h1, Result.andThen_ok, Sem.run_pure]
theorem run_row_nord {op : Oper} {a : Act} (ho : op.op = .buildSlice 29 0 #[]) (w : World) :
    (execOp a.eval op).run Try.prog w = .ok (.value (.slice (some ⟨w.heap.size, 0, none⟩) 0 0)) (w.alloc (.cells #[] 26)) := by
  have h1 : (Instr.buildSlice 29 0 #[]).run Try.prog w = .ok (.slice (some ⟨w.heap.size, 0, none⟩) 0 0) (w.alloc (.cells #[] 26)) := by kernel_rfl
  unfold execOp
  simp only [ho, List.map_toArray, List.map_nil, Sem.run_bind, h1, Result.andThen_ok, Sem.run_pure]
theorem own_nilS {w : World} {base : Nat} {e : TypeId} {n m c size : Nat} {A : Option Addr} {xs : List Value} (h : w.ownsRow base e size (.slice A m c) n xs) : A = none → c = 0 := by
  rintro rfl
  rcases h.2 with ⟨h1, _⟩ | ⟨g, cap, cur, h1, _⟩
  · injection h1
  · injection h1 with h1; cases h1
theorem own_capS {w : World} {base : Nat} {e : TypeId} {n m c size : Nat} {A : Option Addr} {xs : List Value} (h : w.ownsRow base e size (.slice A m c) n xs) : m ≤ c ∧ m = n := by
  rcases h.2 with ⟨h1, h2⟩ | ⟨g, cap, cur, h1, _, _, h3, _⟩
  · injection h1 with h1 h4 h5; omega
  · injection h1 with h1 h4 h5; omega
/-- The last of a row's history. -/
def lastV (v : List Value) : Value := v.getLastD (.slice none 0 0)
theorem lastV_push (v : List Value) (u : Value) : lastV (v ++ [u]) = u := by simp [lastV]
structure InsJ (wc : World) (T : TypeId) (lst : Nat → List NdIn) (c : Nat) (v : List Value) (w : World) : Prop where
  len : v.length = c
  row : RowN wc w T (lastV v) (lst c)
def InsGh (v : List Value) (w : World) (v' : List Value) (w' : World) : Prop := ∃ u, v' = v ++ [u] ∧ Grew w w' (lastV v) u
theorem InsJ.q {wc w w' : World} {T : TypeId} {lst : Nat → List NdIn} {c : Nat} {v : List Value} (h : InsJ wc T lst c v w) (hq : Below w.heap.size w w') : InsJ wc T lst c v w' := ⟨h.len, h.row.step hq⟩
theorem InsJ.app {wc w w' : World} {T : TypeId} {lst : Nat → List NdIn} {c : Nat} {v : List Value} {u : Value} (h : InsJ wc T lst c v w) (hgr : Grew w w' (lastV v) u) (hown : w'.ownsRow wc.heap.size T 39 u (lst (c + 1)).length (ndsL (lst (c + 1)))) :
    InsGh v w (v ++ [u]) w' ∧ InsJ wc T lst (c + 1) (v ++ [u]) w' ∧ (v ++ [u])[c]? = some u :=
  ⟨⟨u, rfl, hgr⟩, ⟨by simp [h.len], by rw [lastV_push]; exact hown, hgr.q h.row.q h.row.own⟩, by rw [List.getElem?_append_right (by rw [h.len]; exact Nat.le_refl _), h.len]; simp⟩
theorem InsJ.made {wc w : World} {T : TypeId} {lst : Nat → List NdIn} {v : List Value} (h : InsJ wc T lst 0 v w) (h0 : lst 0 = []) (h1 : lst 1 = []) :
    InsGh v w (v ++ [.slice (some ⟨w.heap.size, 0, none⟩) 0 0]) (w.alloc (.cells #[] T)) ∧ InsJ wc T lst 1 (v ++ [.slice (some ⟨w.heap.size, 0, none⟩) 0 0]) (w.alloc (.cells #[] T)) ∧ (v ++ [.slice (some ⟨w.heap.size, 0, none⟩) 0 0])[0]? = some (.slice (some ⟨w.heap.size, 0, none⟩) 0 0) := by
  have hx := Ext.of_alloc w (.cells #[] T)
  refine h.app (c := 0) ⟨hx.os, hx.tape, hx.output, by simp, fun g hg _ => hx.block g hg, .inr ⟨w.heap.size, rfl, Nat.le_refl _⟩⟩ ?_
  rw [h1]
  have h2 := World.ownsRow_lit (e := T) (size := 39) w #[] 0 h.row.q.size (Nat.zero_le _) rfl
  simpa [ndsL] using h2
/-- A row of one node, just made: it lies elsewhere than the row that is put together. -/
def OneBox (cs : List Value) (u : Value) (v : List Value) (w : World) : Prop := ∃ g, u = .slice (some ⟨g, 0, none⟩) 1 1 ∧ g < w.heap.size ∧ (lastV v).ownBlock ≠ some g ∧ SeesP w (· = g) (some ⟨g, 0, none⟩) cs
theorem OneBox.q {cs : List Value} (u : Value) (v : List Value) (w w' : World) (h : OneBox cs u v w) (hq : Below w.heap.size w w') : OneBox cs u v w' := by
  obtain ⟨g, h1, h2, h3, h4⟩ := h
  exact ⟨g, h1, Nat.lt_of_lt_of_le h2 hq.size, h3, h4.belowP (fun b hb => hb ▸ h2) hq⟩
theorem OneBox.g {cs : List Value} (u : Value) (v : List Value) (w : World) (v' : List Value) (w' : World) (h : OneBox cs u v w) (hg : InsGh v w v' w') : OneBox cs u v' w' := by
  obtain ⟨g, h1, h2, h3, h4⟩ := h
  obtain ⟨x, rfl, hgr⟩ := hg
  refine ⟨g, h1, Nat.lt_of_lt_of_le h2 hgr.size, ?_, hgr.sees h4 fun b hb => by subst hb; exact ⟨h2, h3⟩⟩
  rw [lastV_push]
  rcases hgr.own with h | ⟨g', h, hge⟩
  · rw [h]; exact h3
  · rw [h]; intro e; injection e with e; omega
theorem OneBox.new {cs : List Value} {w : World} {v : List Value} {T : TypeId} (h : ∀ g, (lastV v).ownBlock = some g → g < w.heap.size) : OneBox cs (.slice (some ⟨w.heap.size, 0, none⟩) 1 1) v (w.alloc (.cells cs.toArray T)) :=
  ⟨w.heap.size, rfl, by simp, fun e => by have := h _ e; omega, sees_new w cs T _ rfl⟩
theorem hist_q (k : Nat) (u : Value) (v : List Value) (w w' : World) (h : v[k]? = some u) (_ : Below w.heap.size w w') : v[k]? = some u := h
theorem hist_g (k : Nat) (u : Value) (v : List Value) (w : World) (v' : List Value) (w' : World) (h : v[k]? = some u) (hg : InsGh v w v' w') : v'[k]? = some u := by
  obtain ⟨x, rfl, _⟩ := hg
  rw [List.getElem?_append_left (List.getElem?_eq_some_iff.1 h).1]; exact h
theorem hist_last {c : Nat} {u : Value} {v : List Value} (hl : v.length = c + 1) (h : v[c]? = some u) : lastV v = u := by
  unfold lastV
  rw [List.getLastD_eq_getLast?, List.getLast?_eq_getElem?, hl, Nat.add_sub_cancel, h]; rfl
end

section
theorem RowN.at_ {w0 w : World} {e : TypeId} {v : Value} {zs : List NdIn} (h : RowN w0 w e v zs) (k : Nat) (hk : k < zs.length) : ∃ b o c, v = .slice (some ⟨b, o, none⟩) zs.length c ∧ b < w.heap.size ∧ NodeAt w b (o + k * 39) zs[k].n zs[k].A zs[k].pn zs[k].pc := by
  have h1 := h.own
  obtain ⟨A, c, rfl⟩ := own_form h1
  obtain ⟨b, o, rfl, hb, hc⟩ := own_seesS h1 (by intro e; have := ndsL_len zs; rw [e] at this; simp at this; omega)
  refine ⟨b, o, c, rfl, hb.2, fun i hi => ?_⟩
  rw [Nat.add_assoc]
  refine hc (k * 39 + i) _ ?_
  unfold ndsL
  rw [flat_at (size := 39) zs (fun z _ => ndL_len z.n z.A z.pn z.pc) k i hk hi, ndL_get _ _ _ _ _ hi]
theorem NodeAt.q {w w' : World} {b o : Nat} {n : Nd} {A : Option Addr} {pn pc : Nat} (h : NodeAt w b o n A pn pc) (hb : b < w.heap.size) (hq : Q w w') : NodeAt w' b o n A pn pc := fun i hi => (hq.cell (p := ⟨b, o + i, none⟩) hb).trans (h i hi)
theorem ndsL_append (xs ys : List NdIn) : ndsL (xs ++ ys) = ndsL xs ++ ndsL ys := by simp [ndsL]
theorem ndsL_take (xs : List NdIn) (k : Nat) : ∃ r, ndsL xs = ndsL (xs.take k) ++ r := ⟨ndsL (xs.drop k), by rw [← ndsL_append, List.take_append_drop]⟩
theorem ndsL_drop (xs : List NdIn) (k : Nat) : (ndsL xs).drop (k * 39) = ndsL (xs.drop k) := by
  rcases Nat.lt_or_ge k xs.length with h | h
  · have e : ndsL xs = ndsL (xs.take k) ++ ndsL (xs.drop k) := by rw [← ndsL_append, List.take_append_drop]
    rw [e, List.drop_append_of_le_length (by rw [ndsL_len, List.length_take]; omega), List.drop_of_length_le (by rw [ndsL_len, List.length_take]; omega), List.nil_append]
  · rw [List.drop_of_length_le (by rw [ndsL_len]; omega), List.drop_of_length_le h]; rfl
theorem ndL_cells (z : NdIn) : ∀ u ∈ ndL z.n z.A z.pn z.pc, u.oneCell' = true := ndL_one _ _ _ _
theorem ndsL_cells (zs : List NdIn) : ∀ u ∈ ndsL zs, u.oneCell' = true := fun u hu => by
  obtain ⟨z, _, h⟩ := List.mem_flatMap.1 hu
  exact ndL_cells z u h
set_option maxHeartbeats 16000000 in
set_option maxRecDepth 100000 in
theorem sorted_ok (A0 : Option Addr) (nn nc : Nat) (zs : List NdIn) (w0 : World) (hz : zs.length = nn) (hn : nn ≤ 10000) (h : NodesAt w0 A0 zs) :
    Calls Try.prog 21 #[.slice A0 nn nc] w0 fun e w' => ∃ v, e = .returned v ∧ Hid (RowN w0 w' 26 v (sortN zs)) := by
  obtain ⟨iN, hiN, hzN0, hzN1, hzN2⟩ := info_parts infoR
  have HZ := Lib.hid hz
  have HN := Lib.hid h
  clear hz h
  go_enter Try.func21, Try.ntmps21
  go_wp2_with fail
  go_loopw [3, 4] (fun v i wr => ∃ k : Nat, k ≤ nn ∧ i = .int .i64 k ∧ Hid (RowN w0 wr 26 v (sortN (zs.take k)))) (fun _ i _ => nn - (intOf i).toNat)
  case atStart => exact ⟨0, by omega, rfl, RowN.begin_ _ _⟩
  case round =>
    obtain ⟨k, hk, rfl, HM⟩ := hrel
    obtain ⟨wq, hwq⟩ : ∃ w, w = wr := ⟨_, rfl⟩
    subst hwq
    by_cases hlt : k < nn
    · have hkz : k < zs.length := by rw [HZ.out]; exact hlt
      obtain ⟨b, o, e1, hb, hat⟩ := (HN.out.q HM.out.q).at_ k hkz
      have hfit := HN.out.fit zs[k] (List.getElem_mem hkz)
      have HTK : Hid (sortN (zs.take (k + 1)) = putN (sortN (zs.take k)) zs[k]) := Lib.hid (sortN_take hkz)
      have hle : (sortN (zs.take k)).length ≤ k := by
        have h1 := (sortN_all (zs.take k)).2.1
        rw [List.length_take] at h1
        omega
      have HLE := Lib.hid hle
      generalize zs[k] = z at *
      generalize sortN (zs.take k) = ys at *
      obtain ⟨n, A, pn, pc⟩ := z
      simp only at hat hfit
      have HAT := Lib.hid hat
      have HCK := Lib.hid (refCheck_ok n A pn pc wq hfit.1)
      clear hkz hat hfit
      subst e1
      by_cases hck : checkN n = 0
      · have HPL : Hid (putN ys ⟨n, A, pn, pc⟩ = if isAt ys ⟨n, A, pn, pc⟩ (placeN ys ⟨n, A, pn, pc⟩) then ys else ys.take (placeN ys ⟨n, A, pn, pc⟩) ++ [⟨n, A, pn, pc⟩] ++ ys.drop (placeN ys ⟨n, A, pn, pc⟩)) := Lib.hid (by unfold putN; rw [if_neg (by simp [hck])])
        have HPLE : Hid (placeN ys ⟨n, A, pn, pc⟩ ≤ ys.length) := Lib.hid (placeN_le _ _)
        rw [hck] at HCK
        obtain ⟨m, hm⟩ : ∃ m, m = ys.length := ⟨_, rfl⟩
        obtain ⟨A1, c1, hA1⟩ := own_form HM.out.own
        rw [← hm] at hA1
        have HML := Lib.hid hm
        have hm1 : m ≤ k := by omega
        clear hm hle hck
        subst hA1
        go_upto_block 2 with (first
          | ((with_reducible refine gate 15 rfl ?_); go_loud (refine wpList_val rfl (load_rnode (.tmp 14) rfl rfl HAT.out) ?_))
          | (go_at_call 13; go_loud ((with_reducible refine (HCK.out).mono ?_); rintro e7 w7 ⟨rfl, hq7⟩; have HQ7 := Lib.hid hq7; clear hq7)))
        have HM7 := Lib.hid (HM.out.step HQ7.out)
        go_cut [5] (fun u wx => u = .int .i64 (placeN ys ⟨n, A, pn, pc⟩ : Nat) ∧ Hid (Q w7 wx))
        case first =>
          go_wp2_with fail
          go_loopw [5] (fun i wr => ∃ j : Nat, j ≤ m ∧ i = .int .i64 j ∧ Hid ((∀ i (h : i < j) (h2 : i < ys.length), ltS ys[i].n.name n.name = true) ∧ Q w7 wr)) (fun i _ => m - (intOf i).toNat)
          case atStart => exact ⟨0, by omega, rfl, fun i h => absurd h (by omega), Q.refl _⟩
          case round =>
            obtain ⟨j, hj, rfl, HJ⟩ := hrel
            obtain ⟨wi, hwi⟩ : ∃ w, w = wr := ⟨_, rfl⟩
            subst hwi
            by_cases hjl : j < m
            · have hjy : j < ys.length := by rw [← HML.out]; exact hjl
              obtain ⟨b2, o2, c2, e2, hb2, hat2⟩ := (HM7.out.step HJ.out.2).at_ j hjy
              injection e2 with e2
              have hn1 := ((HJ.out.2.cell (p := ⟨b, o + k * 39, none⟩) (Nat.lt_of_lt_of_le hb HQ7.out.size)).trans ((HQ7.out.cell (p := ⟨b, o + k * 39, none⟩) hb).trans HAT.out.name))
              have hn2 := hat2.name
              obtain ⟨lb, hlb⟩ : ∃ lb, lb = ltS ys[j].n.name n.name := ⟨_, rfl⟩
              have hlb2 : Op.bytesLess ys[j].n.name.toList n.name.toList = lb := hlb.symm
              have HLB : Hid (∃ h : j < ys.length, ltS ys[j].n.name n.name = lb) := Lib.hid ⟨hjy, hlb.symm⟩
              clear hlb hat2 hb2
              generalize ys[j].n.name = s2 at hn2 hlb2
              subst e2
              have hjm : (j : Int) < m := by omega
              have hkn : (k : Int) < nn := by omega
              go_wp2_with fail
              go_quiet (fail)
              have HQX : Hid (Q w7 (wi.drewN nq)) := Lib.hid (HJ.out.2.drewN nq)
              generalize wi.drewN nq = wx at *
              clear hlb2
              cases lb
              · go_wp2_with fail
                go_meet
                refine ⟨?_, HQX⟩
                obtain ⟨h1, h2⟩ := HLB.out
                rw [show placeN ys ⟨n, A, pn, pc⟩ = j from takeWhile_at _ ys j h1 (fun i hi => HJ.out.1 i hi (by omega)) h2]
              · go_wp2_with fail
                go_roundw
                case rel =>
                  refine ⟨j + 1, by omega, by go_num, fun i hi h2 => ?_, HQX.out⟩
                  rcases Nat.lt_or_ge i j with h | h
                  · exact HJ.out.1 i h h2
                  · obtain rfl : i = j := by omega
                    obtain ⟨h1, h3⟩ := HLB.out
                    exact h3
                case measure => simp [intOf]; omega
            · obtain rfl : j = m := by omega
              have HPE : Hid (placeN ys ⟨n, A, pn, pc⟩ = j) := Lib.hid (by rw [HML.out]; exact takeWhile_all _ ys fun i hi => HJ.out.1 i (by rw [HML.out]; exact hi) hi)
              have hkn : (k : Int) < nn := by omega
              go_wp2_with fail
              go_quiet (fail)
              have HQX : Hid (Q w7 (wi.drewN nq)) := Lib.hid (HJ.out.2.drewN nq)
              generalize wi.drewN nq = wx at *
              go_wp2_with fail
              go_meet
              exact ⟨by rw [HPE.out], HQX⟩
        case rest =>
        obtain ⟨rfl, HQc⟩ := hcut
        generalize placeN ys ⟨n, A, pn, pc⟩ = p at *
        obtain ⟨bb, hbb⟩ : ∃ bb, bb = isAt ys ⟨n, A, pn, pc⟩ p := ⟨_, rfl⟩
        rw [← hbb] at HPL
        have HBB := Lib.hid hbb
        clear hbb
        have hple : p ≤ m := by rw [HML.out]; exact HPLE.out
        have HMc := Lib.hid (HM7.out.step HQc.out)
        have HATc := Lib.hid (HAT.out.q hb (HQ7.out.step HQc.out))
        have HBLT : Hid (b < wc.heap.size) := Lib.hid (Nat.lt_of_lt_of_le hb (HQ7.out.step HQc.out).size)
        have hkn : (k : Int) < nn := by omega
        clear HCK HAT HQ7 HM7 HQc HM hb
        generalize wc = wa at *
        go_upto_region 9 with fail
        go_cut [53] (fun v wx => v = .bool (!bb) ∧ Hid (Q wa wx))
        case first =>
          by_cases hpl : p < m
          · have hjy : p < ys.length := by rw [← HML.out]; exact hpl
            obtain ⟨b2, o2, c2, e2, hb2, hat2⟩ := HMc.out.at_ p hjy
            injection e2 with e2
            have hn1 := HATc.out.name
            have hn2 := hat2.name
            have hlb2 : (ys[p].n.name.toList == n.name.toList) = bb := by
              rw [HBB.out]
              unfold isAt
              rw [List.getElem?_eq_getElem hjy]
              show _ = decide _
              rw [Bool.eq_iff_iff, beq_iff_eq, decide_eq_true_iff]
              exact ⟨toList_inj, fun h => by rw [h]⟩
            clear hat2 hb2
            generalize ys[p].n.name = s2 at hn2 hlb2
            subst e2
            have hjm : (p : Int) < ys.length := by omega
            have hne : ((p : Int) == (ys.length : Int)) = false := beq_eq_false_iff_ne.2 (by omega)
            go_wp2_with fail
            go_quiet (fail)
            have HQX : Hid (Q wa (wa.drewN nq)) := Lib.hid ((Q.refl _).drewN nq)
            go_wp2_with fail
            go_meet
            exact ⟨rfl, HQX⟩
          · obtain rfl : p = m := by omega
            have HPE : Hid (bb = false) := Lib.hid (by rw [HBB.out]; unfold isAt; rw [List.getElem?_eq_none (by rw [HML.out]; exact Nat.le_refl _)])
            go_wp2_with fail
            go_quiet (fail)
            have HQX : Hid (Q wa (wa.drewN nq)) := Lib.hid ((Q.refl _).drewN nq)
            go_wp2_with fail
            go_meet
            exact ⟨by rw [HPE.out]; rfl, HQX⟩
        case rest =>
        obtain ⟨rfl, HQd⟩ := hcut
        cases bb
        · have HI : Hid (putN ys ⟨n, A, pn, pc⟩ = ys.take p ++ [⟨n, A, pn, pc⟩] ++ ys.drop p) := Lib.hid (by rw [HPL.out]; rfl)
          have HMd := Lib.hid (HMc.out.step HQd.out)
          have HATd := Lib.hid (HATc.out.q HBLT.out HQd.out)
          have HBd : Hid (b < wc.heap.size) := Lib.hid (Nat.lt_of_lt_of_le HBLT.out HQd.out.size)
          generalize wc = wb at *
          have HS1 := own_seesS HMd.out.own
          have HST : Hid (SeesP wb (· < wb.heap.size) A1 (ndsL (ys.take p))) := Lib.hid (by
            obtain ⟨r, hr⟩ := ndsL_take ys p
            rw [hr] at HS1
            exact (HS1.more fun b hb => hb.2).prefix_)
          have hcap := own_capS HMd.out.own
          have HCP : Hid (p ≤ c1) := Lib.hid (by omega)
          have HPM : Hid (p ≤ m) := Lib.hid hple
          have HSD : Hid (SeesP wb (· < wb.heap.size) (cutA A1 c1 p 39) (ndsL (ys.drop p))) := Lib.hid (by
            rw [← ndsL_drop]
            exact (HS1.more fun b hb => hb.2).cut (by rw [ndsL_len]; omega))
          have HA1 : Hid (A1 = none → c1 = 0) := Lib.hid (own_nilS HMd.out.own)
          have HA2 : Hid (cutA A1 c1 p 39 = none → c1 - p = 0) := Lib.hid fun h => by have := HA1.out (cutA_none_iff.1 h); omega
          have HTL : Hid ((ys.take p).length = p) := Lib.hid (by rw [List.length_take]; omega)
          have HTP : Hid ((ndsL (ys.take p)).length = p * 39) := Lib.hid (by rw [ndsL_len, HTL.out])
          have HDL : Hid ((ys.drop p).length = m - p) := Lib.hid (by rw [List.length_drop]; omega)
          have HDP : Hid ((ndsL (ys.drop p)).length = (m - p) * 39) := Lib.hid (by rw [ndsL_len, HDL.out])
          have HLM : Hid (m ≤ 10000 ∧ p ≤ m) := Lib.hid ⟨by omega, hple⟩
          clear HS1 hcap
          obtain ⟨lst, hlst⟩ : ∃ lst : Nat → List NdIn, lst = fun c => match c with | 0 => [] | 1 => [] | 2 => ys.take p | 3 => ys.take p ++ [⟨n, A, pn, pc⟩] | _ => ys.take p ++ [⟨n, A, pn, pc⟩] ++ ys.drop p := ⟨_, rfl⟩
          have HL0 : Hid (lst 0 = []) := Lib.hid (by rw [hlst]; rfl)
          have HL1 : Hid (lst 1 = []) := Lib.hid (by rw [hlst]; rfl)
          have HL2 : Hid (lst 2 = ys.take p) := Lib.hid (by rw [hlst]; rfl)
          have HL3 : Hid (lst 3 = ys.take p ++ [⟨n, A, pn, pc⟩]) := Lib.hid (by rw [hlst]; rfl)
          have HL4 : Hid (lst 4 = ys.take p ++ [⟨n, A, pn, pc⟩] ++ ys.drop p) := Lib.hid (by rw [hlst]; rfl)
          clear hlst
          have HJ0 : Hid (InsJ wb 26 lst 0 [] wb.drew) := Lib.hid ⟨rfl, by rw [HL0.out]; exact (RowN.begin_ wb _).step ((Q.refl wb).drew)⟩
          go_wp2_with fail
          -- REGION
          refine wp_region_factsX (S := List Value) 16 (of_decide_eq_true (by kernel_rfl)) (by kernel_rfl) (by kernel_rfl) (by kernel_rfl) (InsJ wb 26 lst) (factsX (Gh := InsGh) [.that (fun u v _ => v[0]? = some u) (hist_q 0) (hist_g 0), .is (.slice A1 m c1), .is (.int .i64 (p : Nat)), .is (.slice A1 p c1), .that (fun u v _ => v[1]? = some u) (hist_q 1) (hist_g 1), .is (.slice (some ⟨b, o, none⟩) nn nc), .is (.int .i64 (k : Nat)), .is (.pointer (some ⟨b, o + k * 39, none⟩)), .is (.agg (ndC n A pn pc)), .that (OneBox (ndL n A pn pc)) (OneBox.q) (OneBox.g), .that (fun u v _ => v[2]? = some u) (hist_q 2) (hist_g 2), .is (.slice A1 m c1), .is (.int .i64 (p : Nat)), .is (.slice (cutA A1 c1 p 39) (m - p) (c1 - p)), .that (fun u v _ => v[3]? = some u) (hist_q 3) (hist_g 3), .that (fun u v _ => v[3]? = some u) (hist_q 3) (hist_g 3)]) (InsGh) (fun i => ([some 0, none, none, none, some 1, none, none, none, none, none, some 2, none, none, none, some 3, none] : List (Option Nat)).getD i none) (by kernel_rfl) 4 (by kernel_rfl) (fun _ _ _ _ h hq => h.q hq) (factsX_q _) (factsX_g _) ([]) (HJ0.out) ?_ ?_
          · refine ⟨?_, ?_, ?_, ?_, ?_, ?_, ?_, ?_, ?_, ?_, ?_, ?_, ?_, ?_, ?_, ?_, trivial⟩
            · intro ax wx vx hj hfr hd
              obtain ⟨q1, q2, q3⟩ := hj.made HL0.out HL1.out
              exact ⟨wanted_free rfl, OpDoes.run (run_row_nord rfl wx) ⟨_, q1, q2, q3⟩⟩
            · intro ax wx vx cx hj hfr hd
              have f3 : ax.tmps.getD 3 undef = .slice A1 m c1 := (hfr 3 (by kernel_rfl)).trans rfl
              have e3 := (getD_form _ _).symm.trans f3
              exact .inl ⟨wanted_free rfl, OpDoes.run (v := .slice A1 m c1) (w' := wx) (by unfold execOp; simp only [Act.eval, f3, Sem.run_pure]) ⟨Below.refl _ _, rfl⟩⟩
            · intro ax wx vx cx hj hfr hd
              have f5 : ax.tmps.getD 5 undef = .int .i64 (p : Nat) := (hfr 5 (by kernel_rfl)).trans rfl
              have e5 := (getD_form _ _).symm.trans f5
              exact .inl ⟨wanted_free rfl, OpDoes.run (v := .int .i64 (p : Nat)) (w' := wx) (by unfold execOp; simp only [Act.eval, f5, Sem.run_pure]) ⟨Below.refl _ _, rfl⟩⟩
            · intro ax wx vx cx hj hfr hd
              have f55 : ax.tmps.getD 55 undef = .slice A1 m c1 := hd 1 (by kernel_rfl) _ _ rfl rfl
              have e55 := (getD_form _ _).symm.trans f55
              have f56 : ax.tmps.getD 56 undef = .int .i64 (p : Nat) := hd 2 (by kernel_rfl) _ _ rfl rfl
              have e56 := (getD_form _ _).symm.trans f56
              exact .inl ⟨wanted_free rfl, OpDoes.run (v := .slice A1 p c1) (w' := wx) (run_slice_hi_ok (.tmp 55) (.tmp 56) rfl Try.underlying29 hiN f55 f56 HCP.out wx) ⟨Below.refl _ _, rfl⟩⟩
            · intro ax wx vx hj hfr hd
              have h54 : (fun u v _ => v[0]? = some u) (ax.tmps.getD 54 undef) vx wx := hd 0 (by kernel_rfl) _ _ rfl rfl
              have f57 : ax.tmps.getD 57 undef = .slice A1 p c1 := hd 3 (by kernel_rfl) _ _ rfl rfl
              have e57 := (getD_form _ _).symm.trans f57
              have el := hist_last hj.len h54
              refine ⟨wanted_free rfl, does_append (.tmp 54) (.tmp 57) 29 rfl wb.heap.size 26 iN _ 39 120 Try.underlying29 hiN hzN0 hzN1 hzN2 rfl (by omega) _ _ _ el.symm hj.row.own (· < wx.heap.size) A1 p c1 (ndsL (ys.take p)) f57 HA1.out HTP.out (SeesP.on HST.out hj.row.q) (ndsL_cells _) (by rw [HL1.out]; have := HLM.out; unfold maxLen; simp; omega) (by rw [HL1.out]; have := HLM.out; simp; omega) hj.row.q.size fun v' w' hown hgr => ?_⟩
              rw [HL1.out] at hown
              obtain ⟨q1, q2, q3⟩ := hj.app hgr (by rw [HL2.out]; rw [HTL.out]; simpa [ndsL] using hown)
              exact ⟨_, q1, q2, q3⟩
            · intro ax wx vx cx hj hfr hd
              have f0 : ax.tmps.getD 0 undef = .slice (some ⟨b, o, none⟩) nn nc := (hfr 0 (by kernel_rfl)).trans rfl
              have e0 := (getD_form _ _).symm.trans f0
              exact .inl ⟨wanted_free rfl, OpDoes.run (v := .slice (some ⟨b, o, none⟩) nn nc) (w' := wx) (by unfold execOp; simp only [Act.eval, f0, Sem.run_pure]) ⟨Below.refl _ _, rfl⟩⟩
            · intro ax wx vx cx hj hfr hd
              have f4 : ax.tmps.getD 4 undef = .int .i64 (k : Nat) := (hfr 4 (by kernel_rfl)).trans rfl
              have e4 := (getD_form _ _).symm.trans f4
              exact .inl ⟨wanted_free rfl, OpDoes.run (v := .int .i64 (k : Nat)) (w' := wx) (by unfold execOp; simp only [Act.eval, f4, Sem.run_pure]) ⟨Below.refl _ _, rfl⟩⟩
            · intro ax wx vx cx hj hfr hd
              have f59 : ax.tmps.getD 59 undef = .slice (some ⟨b, o, none⟩) nn nc := hd 5 (by kernel_rfl) _ _ rfl rfl
              have e59 := (getD_form _ _).symm.trans f59
              have f60 : ax.tmps.getD 60 undef = .int .i64 (k : Nat) := hd 6 (by kernel_rfl) _ _ rfl rfl
              have e60 := (getD_form _ _).symm.trans f60
              exact .inl ⟨wanted_free rfl, OpDoes.run (v := .pointer (some ⟨b, o + k * 39, none⟩)) (w' := wx) (by unfold execOp; simp [go_sem, Act.eval, e59, e60, add_addr, hkn]) ⟨Below.refl _ _, rfl⟩⟩
            · intro ax wx vx cx hj hfr hd
              have f61 : ax.tmps.getD 61 undef = .pointer (some ⟨b, o + k * 39, none⟩) := hd 7 (by kernel_rfl) _ _ rfl rfl
              have e61 := (getD_form _ _).symm.trans f61
              exact .inl ⟨wanted_free rfl, OpDoes.run (v := .agg (ndC n A pn pc)) (w' := wx) (load_rnode (.tmp 61) rfl f61 (HATd.out.q HBd.out hj.row.q)) ⟨Below.refl _ _, rfl⟩⟩
            · intro ax wx vx cx hj hfr hd
              have f62 : ax.tmps.getD 62 undef = .agg (ndC n A pn pc) := hd 8 (by kernel_rfl) _ _ rfl rfl
              have e62 := (getD_form _ _).symm.trans f62
              exact .inl ⟨wanted_free rfl, OpDoes.run (run_row_rnode (.tmp 62) rfl n A pn pc f62 wx) ⟨(Q.refl wx).alloc _, OneBox.new (own_lt hj.row.own)⟩⟩
            · intro ax wx vx hj hfr hd
              have h58 : (fun u v _ => v[1]? = some u) (ax.tmps.getD 58 undef) vx wx := hd 4 (by kernel_rfl) _ _ rfl rfl
              have h63 : (OneBox (ndL n A pn pc)) (ax.tmps.getD 63 undef) vx wx := hd 9 (by kernel_rfl) _ _ rfl rfl
              have el := hist_last hj.len h58
              obtain ⟨g, e63, g2, g3, g4⟩ := h63
              refine ⟨wanted_free rfl, does_append (.tmp 58) (.tmp 63) 29 rfl wb.heap.size 26 iN _ 39 120 Try.underlying29 hiN hzN0 hzN1 hzN2 rfl (by omega) _ _ _ el.symm hj.row.own (· = g) (some ⟨g, 0, none⟩) 1 1 (ndL n A pn pc) e63 (fun h => by cases h) (ndL_len _ _ _ _) g4 (ndL_one _ _ _ _) (by rw [HL2.out, HTL.out]; have := HLM.out; unfold maxLen; omega) (by rw [HL2.out, HTL.out]; have := HLM.out; omega) hj.row.q.size fun v' w' hown hgr => ?_⟩
              rw [HL2.out, HTL.out] at hown
              obtain ⟨q1, q2, q3⟩ := hj.app hgr (by rw [HL3.out, List.length_append, HTL.out, ndsL_append]; simpa [ndsL] using hown)
              exact ⟨_, q1, q2, q3⟩
            · intro ax wx vx cx hj hfr hd
              have f3 : ax.tmps.getD 3 undef = .slice A1 m c1 := (hfr 3 (by kernel_rfl)).trans rfl
              have e3 := (getD_form _ _).symm.trans f3
              exact .inl ⟨wanted_free rfl, OpDoes.run (v := .slice A1 m c1) (w' := wx) (by unfold execOp; simp only [Act.eval, f3, Sem.run_pure]) ⟨Below.refl _ _, rfl⟩⟩
            · intro ax wx vx cx hj hfr hd
              have f5 : ax.tmps.getD 5 undef = .int .i64 (p : Nat) := (hfr 5 (by kernel_rfl)).trans rfl
              have e5 := (getD_form _ _).symm.trans f5
              exact .inl ⟨wanted_free rfl, OpDoes.run (v := .int .i64 (p : Nat)) (w' := wx) (by unfold execOp; simp only [Act.eval, f5, Sem.run_pure]) ⟨Below.refl _ _, rfl⟩⟩
            · intro ax wx vx cx hj hfr hd
              have f65 : ax.tmps.getD 65 undef = .slice A1 m c1 := hd 11 (by kernel_rfl) _ _ rfl rfl
              have e65 := (getD_form _ _).symm.trans f65
              have f66 : ax.tmps.getD 66 undef = .int .i64 (p : Nat) := hd 12 (by kernel_rfl) _ _ rfl rfl
              have e66 := (getD_form _ _).symm.trans f66
              exact .inl ⟨wanted_free rfl, OpDoes.run (v := .slice (cutA A1 c1 p 39) (m - p) (c1 - p)) (w' := wx) (run_slice_lo_ok (.tmp 65) (.tmp 66) rfl Try.underlying29 hiN hzN1 f65 f66 HPM.out wx) ⟨Below.refl _ _, rfl⟩⟩
            · intro ax wx vx hj hfr hd
              have h64 : (fun u v _ => v[2]? = some u) (ax.tmps.getD 64 undef) vx wx := hd 10 (by kernel_rfl) _ _ rfl rfl
              have f67 : ax.tmps.getD 67 undef = .slice (cutA A1 c1 p 39) (m - p) (c1 - p) := hd 13 (by kernel_rfl) _ _ rfl rfl
              have e67 := (getD_form _ _).symm.trans f67
              have el := hist_last hj.len h64
              refine ⟨wanted_free rfl, does_append (.tmp 64) (.tmp 67) 29 rfl wb.heap.size 26 iN _ 39 120 Try.underlying29 hiN hzN0 hzN1 hzN2 rfl (by omega) _ _ _ el.symm hj.row.own (· < wx.heap.size) (cutA A1 c1 p 39) (m - p) (c1 - p) (ndsL (ys.drop p)) f67 HA2.out HDP.out (SeesP.on HSD.out hj.row.q) (ndsL_cells _) (by rw [HL3.out]; have := HLM.out; have := HTL.out; unfold maxLen; simp; omega) (by rw [HL3.out]; have := HLM.out; have := HTL.out; simp; omega) hj.row.q.size fun v' w' hown hgr => ?_⟩
              rw [HL3.out] at hown
              obtain ⟨q1, q2, q3⟩ := hj.app hgr (by rw [HL4.out, List.length_append, HDL.out, ndsL_append]; exact hown)
              exact ⟨_, q1, q2, q3⟩
            · intro ax wx vx cx hj hfr hd
              have h68 : (fun u v _ => v[3]? = some u) (ax.tmps.getD 68 undef) vx wx := hd 14 (by kernel_rfl) _ _ rfl rfl
              exact .inl ⟨wanted_free rfl, OpDoes.run (v := ax.tmps.getD 68 undef) (w' := wx) (by unfold execOp; simp only [Act.eval, Sem.run_pure]) ⟨Below.refl _ _, h68⟩⟩
          · intro us wx vx hj hf
            have h3 : (fun u v _ => v[3]? = some u) (us 3) vx wx := hf 15 _ _ (by omega) rfl rfl
            have h68 : (fun u v _ => v[3]? = some u) (us 68) vx wx := hf 14 _ _ (by omega) rfl rfl
            have HJX := Lib.hid hj
            clear hf hj
            simp only [List.drop_succ_cons, List.drop_zero, List.drop_nil, List.take_succ_cons, List.take_zero, List.take_nil, fillSlots, List.setIfInBounds_toArray, List.set_cons_succ, List.set_cons_zero]
          -- DNE
            go_wp2_with fail
            go_roundw
            case rel =>
              refine ⟨k + 1, by omega, by go_num, ?_⟩
              have e3 := hist_last HJX.out.len h3
              have hrow := HJX.out.row
              rw [e3, HL4.out] at hrow
              rw [HTK.out, HI.out]
              exact Lib.hid ⟨own_mono hrow.own HMd.out.q.size, HMd.out.q.step hrow.q⟩
            case measure => simp [intOf]; omega
        · go_wp2_with fail
          go_roundw
          case rel => exact ⟨k + 1, by omega, by go_num, by rw [HTK.out, HPL.out]; exact Lib.hid (HMc.out.step HQd.out)⟩
          case measure => simp [intOf]; omega
      · have HP : Hid (putN ys ⟨n, A, pn, pc⟩ = ys) := Lib.hid (by unfold putN; rw [if_pos hck])
        have hck2 : ¬ ((checkN n : Int) = 0) := by omega
        go_wp2_with (first
          | ((with_reducible refine gate 15 rfl ?_); go_loud (refine wpList_val rfl (load_rnode (.tmp 14) rfl rfl HAT.out) ?_))
          | (go_at_call 13; go_loud ((with_reducible refine (HCK.out).mono ?_); rintro e7 w7 ⟨rfl, hq7⟩; have HQ7 := Lib.hid hq7; clear hq7)))
        go_roundw
        case rel => exact ⟨k + 1, by omega, by go_num, by rw [HTK.out, HP.out]; exact Lib.hid (HM.out.step HQ7.out)⟩
        case measure => simp [intOf]; omega
    · obtain rfl : nn = k := by omega
      have HR : Hid (zs.take nn = zs) := Lib.hid (List.take_of_length_le (by rw [HZ.out]; exact Nat.le_refl _))
      go_wp2_with fail
      go_ret
      exact ⟨_, rfl, by rw [← HR.out]; exact HM.out⟩
end
end Go.Proofs.Ytffenfhbiapefaa
