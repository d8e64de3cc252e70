/- Rows of nodes: what they read as; lists of names of a node's own. -/
import Derived.Test.YtffenfhbiapefaaNod
import Derived.Test.YtffenfhbiapefaaNck
import Derived.Test.YtffenfhbiapefaaRowS
import Derived.Test.YtffenfhbiapefaaRegh
import Derived.Deep.Upon
namespace Go.Proofs.Ytffenfhbiapefaa
set_option linter.unusedVariables false
set_option linter.unusedSimpArgs false
open Go.RowKit

/-- A row of m things that a call may keep: it reads as news; its block was made since base. -/
def Got (w : World) (base : Nat) (u : Value) (m : Nat) (news : List Value) : Prop :=
  ∃ D cc, u = .slice D m cc ∧ m ≤ cc ∧ SeesP w (fun b => u.ownBlock = some b) D news ∧ ∀ b, u.ownBlock = some b → base ≤ b ∧ b < w.heap.size
theorem Got.q {w w' : World} {base : Nat} {u : Value} {m : Nat} {news : List Value} (h : Got w base u m news) (hq : Q w w') : Got w' base u m news := by
  obtain ⟨D, cc, h1, h0, h2, h3⟩ := h
  exact ⟨D, cc, h1, h0, h2.belowP (fun b hb => (h3 b hb).2) hq, fun b hb => ⟨(h3 b hb).1, Nat.lt_of_lt_of_le (h3 b hb).2 hq.size⟩⟩
theorem Got.grew {w w' : World} {base : Nat} {u v v' : Value} {m : Nat} {news : List Value} (h : Got w base u m news) (hg : Grew w w' v v') (hf : Far u v) : Got w' base u m news := by
  obtain ⟨D, cc, h1, h0, h2, h3⟩ := h
  exact ⟨D, cc, h1, h0, hg.sees h2 (fun b hb => ⟨(h3 b hb).2, hf b hb⟩), fun b hb => ⟨(h3 b hb).1, Nat.lt_of_lt_of_le (h3 b hb).2 hg.size⟩⟩
theorem Got.far {w w' : World} {base : Nat} {u v v' : Value} {m : Nat} {news : List Value} (h : Got w base u m news) (hg : Grew w w' v v') (hf : Far u v) : Far u v' := fun b hb hv => by
  rcases hg.own with h1 | ⟨g, h1, h2⟩
  · exact hf b hb (h1 ▸ hv)
  · obtain ⟨D, cc, _, _, _, h3⟩ := h
    rw [h1] at hv; injection hv with hv
    have := (h3 b hb).2
    omega
theorem run_append_got {w : World} {base g : Nat} (ty : TypeId) (hg : base ≤ g) (hgl : g < w.heap.size) (hb : base ≤ w.heap.size) (ok : Nat → Prop) (B : Option Addr) (m c : Nat) (news : List Value) (hln : news.length = m * 32) (hs : SeesP w ok B news) (h63 : m ≤ 4398046510976) :
    ∃ u w', (Builtin.append_ #[22, 22] ty #[.slice (some ⟨g, 0, none⟩) 0 0, .slice B m c]).run Try.prog w = .ok u w' ∧ Q w w' ∧ Got w' base u m news := by
  obtain ⟨iI, hiI, hz, hsz, hby⟩ := info_parts infoI
  have add : ∀ (b o' j : Nat), (⟨b, o', none⟩ : Addr).add j = ⟨b, o' + j, none⟩ := fun b o' j => add_addr b o' j
  rcases Nat.eq_zero_or_pos m with rfl | hm
  · have hn : news = [] := List.eq_nil_of_length_eq_zero (by simpa using hln)
    subst hn
    have hr : (Builtin.append_ #[22, 22] ty #[.slice (some ⟨g, 0, none⟩) 0 0, .slice B 0 c]).run Try.prog w = .ok (.slice (some ⟨g, 0, none⟩) 0 0) w := by
      cases B <;> simp [Builtin.append_, run_underlying Try.underlying22, sizeOf, typeInfo, hiI, Builtin.lenOf, Builtin.firstCells, loadCells, loadCellsFrom, storeCells]
    refine ⟨_, w, hr, Q.refl w, some ⟨g, 0, none⟩, 0, rfl, Nat.le_refl _, SeesP.nil _ _ _, fun b hb => ?_⟩
    simp [Value.ownBlock] at hb; omega
  · obtain ⟨b2, o2, rfl, _, hc2⟩ := hs (by intro h; rw [h] at hln; simp at hln; omega)
    have hr := run_append_grow (P := Try.prog) w 22 ty 24 iI _ Try.underlying22 hiI hz ⟨g, 0, none⟩ 0 0 [] (by simp) (fun j u hu => by simp at hu) ⟨b2, o2, none⟩ m c news (by rw [hsz]; exact hln) (fun j u hu => by rw [add]; exact hc2 j u hu) (by omega) (by omega) (by rw [hby]; exact growslice_fits (by omega) (by omega))
    have hge := grownCap_ge w (0 + m) 0 24
    rw [Nat.zero_add] at hr hge
    refine ⟨_, _, hr, (Q.refl w).drew.alloc _, some ⟨w.heap.size, 0, none⟩, grownCap w m 0 24, rfl, hge, fun _ => ⟨w.heap.size, 0, rfl, by simp [Value.ownBlock], fun j u hu => ?_⟩, fun b hb' => ?_⟩
    · have h := heap_alloc_new w.drew (.cells (#[] ++ news.toArray ++ Builtin.zeroCells (Value.agg (arrO noId)).cells (grownCap w m 0 24 - m)) 24)
      simp only [World.cell?]
      have h' : (w.drew.alloc (.cells (([] : List Value).toArray ++ news.toArray ++ Builtin.zeroCells (Value.agg (arrO noId)).cells (grownCap w m 0 24 - m)) 24)).heap[w.heap.size]? = some _ := h
      rw [h']
      simp only [Nat.zero_add]
      have hj := (List.getElem?_eq_some_iff.1 hu).1
      rw [Array.getElem?_append_left (by simpa using hj)]
      simpa using hu
    · simp [Value.ownBlock] at hb'
      subst hb'
      exact ⟨hb, by simp⟩
/-- append of one struct that lies somewhere. -/
theorem wpList_append_st {P : Program} {w : World} {ops : Array Oper} {rest : List Oper} {o : Oper} {a : Act} {K : Exit → Act → World → Prop} (hgd : o.guard = none) (s x : Operand) (t : TypeId)
    (ho : o.op = .call { callee := .builtin .append, args := #[s, x], argTypes := #[t, t] })
    (base : Nat) (e : TypeId) (i : TypeInfo) (z : Value) (size bytes : Nat) (ht : P.underlying t = some (.slice e)) (hi : P.info? e = some i) (hz : i.zero = some z)
    (hsize : i.size = size) (hby : i.bytes = bytes) (hzs : z.cells.size = size) (hsz : 0 < size)
    (v : Value) (n : Nat) (xs : List Value) (hs : a.eval s = v) (hown : w.ownsRow base e size v n xs)
    (cs : List Value) (ok : Nat → Prop) (g m : Nat) (hx : a.eval x = .slice (some ⟨g, 0, none⟩) m m) (hcs : cs.length = m * size) (hr : SeesP w ok (some ⟨g, 0, none⟩) cs) (h1 : ∀ u ∈ cs, u.oneCell' = true)
    (h63 : n + m ≤ maxLen) (hbytes : (n + m) * bytes ≤ 140737488355328) (hbase : base ≤ w.heap.size)
    (h : ∀ v' w', w'.ownsRow base e size v' (n + m) (xs ++ cs) → Grew w w' v v' → wpList P ops K rest (a.put o.dst v') w') : wpList P ops K (o :: rest) a w := by
  refine wpList_append_own_at _ hgd s x t ho base e i z size bytes ht hi hz hsize hby hzs hsz v n xs hs hown ⟨g, 0, none⟩ m m cs hx hcs (fun j u hu => ?_) h1 h63 hbytes hbase (fun v' w' h2 h3 h4 h5 => h v' w' h2 ⟨h3.os, h3.tape, h3.output, h3.size, fun b hb hv => h3.block b hb (fun e => hv e.symm), ?_⟩)
  · obtain ⟨b, o', e1, _, hc⟩ := hr (by rintro rfl; simp at hu)
    injection e1 with e1
    injection e1 with e1 e2
    subst e1 e2
    rw [add_addr]
    exact hc j u hu
  · rcases h5 with h5 | h5
    · exact .inl h5
    · exact .inr ⟨_, h5, Nat.le_refl _⟩
theorem run_build_node {op : Oper} {a : Act} (n : Nd) (B : Option Addr) (pn pc : Nat) (x0 x1 x2 x3 x4 x5 x6 x7 : Operand) (ho : op.op = .build 33 #[(0, x0), (1, x1), (2, x2), (3, x3), (4, x4), (5, x5), (6, x6), (7, x7)])
    (h0 : a.eval x0 = .string n.name) (h1 : a.eval x1 = .int .i64 n.kind) (h2 : a.eval x2 = .int .i64 n.mode) (h3 : a.eval x3 = .int .i64 n.time) (h4 : a.eval x4 = .int .i64 n.size) (h5 : a.eval x5 = .string n.target) (h6 : a.eval x6 = .slice B pn pc) (h7 : a.eval x7 = .agg (arrO n.tree)) (w : World) :
    (execOp a.eval op).run Try.prog w = .ok (.value (.agg (ndC n B pn pc))) w := by
  have hr : (Instr.build 33 #[(0, .string n.name), (1, .int .i64 n.kind), (2, .int .i64 n.mode), (3, .int .i64 n.time), (4, .int .i64 n.size), (5, .string n.target), (6, .slice B pn pc), (7, .agg (arrO n.tree))]).run Try.prog w = .ok (.agg (ndC n B pn pc)) w := by kernel_rfl
  unfold execOp
  simp only [ho, List.map_toArray, List.map_cons, List.map_nil, h0, h1, h2, h3, h4, h5, h6, h7, Sem.run_bind, hr, Result.andThen_ok, Sem.run_pure]
theorem run_build_rnode {op : Oper} {a : Act} (n : Nd) (B : Option Addr) (pn pc : Nat) (x0 x1 x2 x3 x4 x5 x6 x7 : Operand) (ho : op.op = .build 26 #[(0, x0), (1, x1), (2, x2), (3, x3), (4, x4), (5, x5), (6, x6), (7, x7)])
    (h0 : a.eval x0 = .string n.name) (h1 : a.eval x1 = .int .i64 n.kind) (h2 : a.eval x2 = .int .i64 n.mode) (h3 : a.eval x3 = .int .i64 n.time) (h4 : a.eval x4 = .int .i64 n.size) (h5 : a.eval x5 = .string n.target) (h6 : a.eval x6 = .slice B pn pc) (h7 : a.eval x7 = .agg (arrO n.tree)) (w : World) :
    (execOp a.eval op).run Try.prog w = .ok (.value (.agg (ndC n B pn pc))) w := by
  have hr : (Instr.build 26 #[(0, .string n.name), (1, .int .i64 n.kind), (2, .int .i64 n.mode), (3, .int .i64 n.time), (4, .int .i64 n.size), (5, .string n.target), (6, .slice B pn pc), (7, .agg (arrO n.tree))]).run Try.prog w = .ok (.agg (ndC n B pn pc)) w := by kernel_rfl
  unfold execOp
  simp only [ho, List.map_toArray, List.map_cons, List.map_nil, h0, h1, h2, h3, h4, h5, h6, h7, Sem.run_bind, hr, Result.andThen_ok, Sem.run_pure]
theorem run_row_node {op : Oper} {a : Act} (x : Operand) (ho : op.op = .buildSlice 27 1 #[(0, x)]) (n : Nd) (B : Option Addr) (pn pc : Nat) (hx : a.eval x = .agg (ndC n B pn pc)) (w : World) :
    (execOp a.eval op).run Try.prog w = .ok (.value (.slice (some ⟨w.heap.size, 0, none⟩) 1 1)) (w.alloc (.cells (ndL n B pn pc).toArray 33)) := by
  have h1 : (Instr.buildSlice 27 1 #[(0, .agg (ndC n B pn pc))]).run Try.prog w = .ok (.slice (some ⟨w.heap.size, 0, none⟩) 1 1) (w.alloc (.cells (ndL n B pn pc).toArray 33)) := by kernel_rfl
  unfold execOp
  simp only [ho, List.map_toArray, List.map_cons, List.map_nil, hx, Sem.run_bind, h1, Result.andThen_ok, Sem.run_pure]
theorem run_row_rnode {op : Oper} {a : Act} (x : Operand) (ho : op.op = .buildSlice 29 1 #[(0, x)]) (n : Nd) (B : Option Addr) (pn pc : Nat) (hx : a.eval x = .agg (ndC n B pn pc)) (w : World) :
    (execOp a.eval op).run Try.prog w = .ok (.value (.slice (some ⟨w.heap.size, 0, none⟩) 1 1)) (w.alloc (.cells (ndL n B pn pc).toArray 26)) := by
  have h1 : (Instr.buildSlice 29 1 #[(0, .agg (ndC n B pn pc))]).run Try.prog w = .ok (.slice (some ⟨w.heap.size, 0, none⟩) 1 1) (w.alloc (.cells (ndL n B pn pc).toArray 26)) := by kernel_rfl
  unfold execOp
  simp only [ho, List.map_toArray, List.map_cons, List.map_nil, hx, Sem.run_bind, h1, Result.andThen_ok, Sem.run_pure]
theorem run_row_noid {op : Oper} {a : Act} (ho : op.op = .buildSlice 22 0 #[]) (w : World) :
    (execOp a.eval op).run Try.prog w = .ok (.value (.slice (some ⟨w.heap.size, 0, none⟩) 0 0)) (w.alloc (.cells #[] 24)) := by
  have h1 : (Instr.buildSlice 22 0 #[]).run Try.prog w = .ok (.slice (some ⟨w.heap.size, 0, none⟩) 0 0) (w.alloc (.cells #[] 24)) := by kernel_rfl
  unfold execOp
  simp only [ho, List.map_toArray, List.map_nil, Sem.run_bind, h1, Result.andThen_ok, Sem.run_pure]
/-- Things of a node's row, one behind the other. -/
def ndsL (zs : List NdIn) : List Value := zs.flatMap fun z => ndL z.n z.A z.pn z.pc
theorem ndsL_len (zs : List NdIn) : (ndsL zs).length = zs.length * 39 := flat_len zs (fun z _ => ndL_len z.n z.A z.pn z.pc)
/-- A row of nodes that reads, with all their lists. -/
structure NodesAt (w : World) (A : Option Addr) (zs : List NdIn) : Prop where
  row : SeesP w (· < w.heap.size) A (ndsL zs)
  parts : ∀ z ∈ zs, SeesP w (· < w.heap.size) z.A (z.n.ids.flatMap gL)
  fit : ∀ z ∈ zs, NdFit z.n z.pn ∧ z.pn ≤ 9223372036854775807 ∧ (∀ i ∈ z.n.ids, i.length = 32 ∧ ∀ x ∈ i, x ≤ 255) ∧ ∀ x ∈ z.n.tree, x ≤ 255
theorem SeesP.on {w w' : World} {A : Option Addr} {cs : List Value} (h : SeesP w (· < w.heap.size) A cs) (hq : Q w w') : SeesP w' (· < w'.heap.size) A cs :=
  (h.belowP (fun _ h => h) hq).more fun _ hb => Nat.lt_of_lt_of_le hb hq.size
theorem NodesAt.q {w w' : World} {A : Option Addr} {zs : List NdIn} (h : NodesAt w A zs) (hq : Q w w') : NodesAt w' A zs :=
  ⟨SeesP.on h.row hq, fun z hz => SeesP.on (h.parts z hz) hq, h.fit⟩
/-- Node number k of the row. -/
theorem NodesAt.at_ {w : World} {A : Option Addr} {zs : List NdIn} (h : NodesAt w A zs) (k : Nat) (hk : k < zs.length) : ∃ b o, A = some ⟨b, o, none⟩ ∧ b < w.heap.size ∧ NodeAt w b (o + k * 39) zs[k].n zs[k].A zs[k].pn zs[k].pc := by
  obtain ⟨b, o, rfl, hb, hc⟩ := h.row (by intro e; have := ndsL_len zs; rw [e] at this; simp at this; omega)
  refine ⟨b, o, rfl, hb, fun i hi => ?_⟩
  rw [Nat.add_assoc]
  refine hc (k * 39 + i) _ ?_
  unfold ndsL
  rw [flat_at (size := 39) zs (fun z _ => ndL_len z.n z.A z.pn z.pc) k i hk hi, ndL_get _ _ _ _ _ hi]
end Go.Proofs.Ytffenfhbiapefaa
