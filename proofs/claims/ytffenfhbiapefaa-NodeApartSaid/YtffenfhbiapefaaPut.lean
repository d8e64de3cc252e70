/- The walk through put: a node is put into an Out. -/
import Derived.Test.YtffenfhbiapefaaGid
import Derived.Test.YtffenfhbiapefaaRegz
namespace Go.Proofs.Ytffenfhbiapefaa
set_option linter.unusedVariables false
set_option linter.unusedSimpArgs false
open Go.RowKit

/-- A row that was just made, next to an Out whose bytes lie in v. -/
def RowG (g : Nat) (u v : Value) (w : World) (m : Nat) (cs : List Value) : Prop :=
  ∃ b, u = .slice (some ⟨b, 0, none⟩) m m ∧ SeesP w (fun k => k = b) (some ⟨b, 0, none⟩) cs ∧ b < w.heap.size ∧ ¬ OutS g v b
theorem RowG.q {g : Nat} {u v : Value} {w w' : World} {m : Nat} {cs : List Value} (h : RowG g u v w m cs) (hq : Q w w') : RowG g u v w' m cs := by
  obtain ⟨b, h1, h2, h3, h4⟩ := h
  exact ⟨b, h1, h2.belowP (fun k hk => by subst hk; exact h3) hq, Nat.lt_of_lt_of_le h3 hq.size, h4⟩
theorem RowG.g {g : Nat} {u v v' : Value} {w w' : World} {m : Nat} {cs : List Value} (h : RowG g u v w m cs) (ho : Only (OutS g v) w w') (hn : NewOr w v v') : RowG g u v' w' m cs := by
  obtain ⟨b, h1, h2, h3, h4⟩ := h
  refine ⟨b, h1, ho.sees h2 (fun k hk => by subst hk; exact ⟨h3, h4⟩), Nat.lt_of_lt_of_le h3 ho.size, fun hO => ?_⟩
  rcases hO with hO | hO
  · exact h4 (.inl hO)
  · rcases hn b hO with h5 | h5
    · exact h4 (.inr h5)
    · omega
theorem RowG.new {g : Nat} {v : Value} {w : World} {t : TypeId} (cs : List Value) (hO : ¬ OutS g v w.heap.size) : RowG g (.slice (some ⟨w.heap.size, 0, none⟩) cs.length cs.length) v (w.alloc (.cells cs.toArray t)) cs.length cs :=
  ⟨_, rfl, SeesP.newAt w cs t, by rw [alloc_size]; omega, hO⟩
theorem nums_new {base g e : Nat} {L : List Nat} {w1 wx : World} {v0 v : Value} (zs : List Int) (t : TypeId) (h : OutSt w1 v0 wx base g e L v) (hL : L.length ≤ 49999999900) (hz : zs.length ≤ 1000) :
    Calls Try.prog 33 #[.pointer (some ⟨g, 0, none⟩), .slice (some ⟨wx.heap.size, 0, none⟩) zs.length zs.length] (wx.alloc (.cells (zs.map (.int .i64)).toArray t)) fun e_ w' => ∃ v', e_ = .returned (.pointer (some ⟨g, 0, none⟩)) ∧ Hid (OutSt w1 v0 w' base g (zs.foldl numStep (e, L)).1 (zs.foldl numStep (e, L)).2 v') := by
  have hq : Q wx (wx.alloc (.cells (zs.map (.int .i64)).toArray t)) := (Q.refl wx).alloc _
  have h1 := nums_ok base g e zs.length (some ⟨wx.heap.size, 0, none⟩) zs L v (fun k => k = wx.heap.size) _ (h.has.q hq) (SeesP.newAt wx (zs.map (.int .i64)) t) (fun k hk => by subst hk; exact ⟨by rw [alloc_size]; omega, fun hO => by have := h.has.lt _ hO; omega⟩) (by omega) (by omega)
  exact h1.mono fun e_ w' ⟨v', he, hst⟩ => ⟨v', he, OutSt.trans (h.q hq) hst⟩
theorem texts_new {base g e : Nat} {L : List Nat} {w1 wx : World} {v0 v : Value} (s : ByteArray) (t : TypeId) (h : OutSt w1 v0 wx base g e L v) (hL : L.length ≤ 49999000000) (hs : s.size ≤ 9223372036854775807) :
    Calls Try.prog 50 #[.pointer (some ⟨g, 0, none⟩), .slice (some ⟨wx.heap.size, 0, none⟩) 1 1] (wx.alloc (.cells #[.string s] t)) fun e_ w' => ∃ v', e_ = .returned (.pointer (some ⟨g, 0, none⟩)) ∧ Hid (OutSt w1 v0 w' base g (textStep (e, L) s).1 (textStep (e, L) s).2 v') := by
  have hq : Q wx (wx.alloc (.cells #[.string s] t)) := (Q.refl wx).alloc _
  have h1 := texts_ok base g e 1 (some ⟨wx.heap.size, 0, none⟩) [s] L v (fun k => k = wx.heap.size) _ (h.has.q hq) (SeesP.newAt wx [.string s] t) (fun k hk => by subst hk; exact ⟨by rw [alloc_size]; omega, fun hO => by have := h.has.lt _ hO; omega⟩) (by simp; omega) (by simp) (fun t ht => by obtain rfl := List.mem_singleton.1 ht; exact hs)
  exact h1.mono fun e_ w' ⟨v', he, hst⟩ => ⟨v', he, OutSt.trans (h.q hq) hst⟩
theorem run_row_id {op : Oper} {a : Act} (x : Operand) (ho : op.op = .buildSlice 22 1 #[(0, x)]) (L : List Nat) (hx : a.eval x = .agg (arrO L)) (w : World) :
    (execOp a.eval op).run Try.prog w = .ok (.value (.slice (some ⟨w.heap.size, 0, none⟩) 1 1)) (w.alloc (.cells (gL L).toArray 24)) := by
  have h1 : (Instr.buildSlice 22 1 #[(0, .agg (arrO L))]).run Try.prog w = .ok (.slice (some ⟨w.heap.size, 0, none⟩) 1 1) (w.alloc (.cells (gL L).toArray 24)) := by kernel_rfl
  unfold execOp
  simp only [ho, List.map_toArray, List.map_cons, List.map_nil, hx, Sem.run_bind, h1, Result.andThen_ok, Sem.run_pure]
theorem OutSt.okk {base g e : Nat} {L : List Nat} {w w1 wx : World} {v0 v : Value} {ok : Nat → Prop} (h : OutSt w1 v0 wx base g e L v) (hq : Q w w1) (hok : ∀ k, ok k → k < w.heap.size ∧ ¬ OutS g v0 k) : ∀ k, ok k → k < wx.heap.size ∧ ¬ OutS g v k := fun k hk => by
  obtain ⟨h1, h2⟩ := hok k hk
  have h3 := hq.size
  have h4 := h.only.size
  refine ⟨by omega, fun hO => ?_⟩
  rcases h.out hO with h5 | h5
  · exact h2 h5
  · omega
theorem OutSt.lift {base g e : Nat} {L : List Nat} {w w1 wx : World} {v0 v : Value} (hh : OutHas w base g e L v0) (hq : Q w w1) {e2 : Nat} {L2 : List Nat} (h : OutSt w1 v0 wx base g e2 L2 v) : OutSt w v0 wx base g e2 L2 v := OutSt.trans ((OutSt.refl hh).q hq) h
/-- The Out behind c of put's first calls. -/
def putSt (s : Nat × List Nat) (n : Nd) (c : Nat) : Nat × List Nat :=
  if c = 0 then s else if c = 1 then textStep s n.name else [n.kind, n.mode, n.time].foldl numStep (textStep s n.name)
/-- One node more. -/
def putStep (s : Nat × List Nat) (n : Nd) : Nat × List Nat :=
  let t := [n.kind, n.mode, n.time].foldl numStep (textStep s n.name)
  if n.kind = 0 then n.ids.foldl rawStep ([n.size, (n.ids.length : Int)].foldl numStep t)
  else if n.kind = 1 then [n.tree].foldl rawStep t
  else if n.kind = 2 then textStep t n.target
  else t
set_option maxHeartbeats 16000000 in
set_option maxRecDepth 100000 in
theorem put_ok (base g e : Nat) (L : List Nat) (v0 : Value) (n : Nd) (A : Option Addr) (pn pc : Nat) (ok : Nat → Prop) (w : World) (h : OutHas w base g e L v0) (hs : SeesP w ok A (n.ids.flatMap gL)) (hok : ∀ k, ok k → k < w.heap.size ∧ ¬ OutS g v0 k)
    (hf : NdFit n pn) (hid : ∀ i ∈ n.ids, i.length = 32 ∧ ∀ x ∈ i, x ≤ 255) (htr : ∀ x ∈ n.tree, x ≤ 255) (hL : L.length ≤ 20000000000) (hpn : pn ≤ 100000000) :
    Calls Try.prog 34 #[.agg (ndC n A pn pc), .pointer (some ⟨g, 0, none⟩)] w (OutPut w base g (putStep (e, L) n) v0) := by
  have HH := Lib.hid h
  have HS := Lib.hid hs
  have HOK := Lib.hid hok
  have HF := Lib.hid hf
  have HID := Lib.hid hid
  have HTR := Lib.hid htr
  have HNS := Lib.hid hf.name
  clear h hs hok hf hid htr
  go_enter Try.func34, Try.ntmps34
  go_wp2_with ((with_reducible refine gate 2 rfl ?_); go_loud (refine wpList_box_row rfl 33 (.tmp 0) rfl _ rfl 39 _ (nd_agg n A pn pc) ?_; intro w1 hr1 hx1; have HB := Lib.hid hr1; have HQ1 : Hid (Q w w1) := Lib.hid (hx1.q (Q.refl _)); clear hr1 hx1))
  have HST : Hid (OutSt w1 v0 w1.drew base g e L v0) := Lib.hid ((OutSt.refl (HH.out.q HQ1.out)).q (Q.refl w1).drew)
  have HBO : Hid (¬ OutS g v0 w.heap.size) := Lib.hid fun hO => by have := HH.out.lt _ hO; omega
  simp only [Act.put, List.setIfInBounds_toArray, List.set_cons_succ, List.set_cons_zero]
  -- REGION
  refine wp_region_factsX (S := Value) 13 (of_decide_eq_true (by kernel_rfl)) (by kernel_rfl) (by kernel_rfl) (by kernel_rfl) (fun c v w' => OutSt w1 v0 w' base g (putSt (e, L) n c).1 (putSt (e, L) n c).2 v) (factsX (Gh := fun v w v' w' => Only (OutS g v) w w' ∧ NewOr w v v') [.is (.pointer (some ⟨g, 0, none⟩)), .is (.pointer (some ⟨w.heap.size, 0, none⟩)), .is (.string n.name), .that (fun u v w => RowG g u v w 1 [.string n.name]) (fun _ _ _ _ h hq => h.q hq) (fun _ _ _ _ _ h hg => h.g hg.1 hg.2), .is (.pointer (some ⟨g, 0, none⟩)), .is (.pointer (some ⟨w.heap.size, 1, none⟩)), .is (.int .i64 n.kind), .is (.pointer (some ⟨w.heap.size, 2, none⟩)), .is (.int .i64 n.mode), .is (.pointer (some ⟨w.heap.size, 3, none⟩)), .is (.int .i64 n.time), .that (fun u v w => RowG g u v w 3 [.int .i64 n.kind, .int .i64 n.mode, .int .i64 n.time]) (fun _ _ _ _ h hq => h.q hq) (fun _ _ _ _ _ h hg => h.g hg.1 hg.2), .is (.pointer (some ⟨g, 0, none⟩))]) (fun v w v' w' => Only (OutS g v) w w' ∧ NewOr w v v') (fun i => ([none, none, none, none, some 0, none, none, none, none, none, none, none, some 1] : List (Option Nat)).getD i none) (by kernel_rfl) 2 (by kernel_rfl) (fun c v w w' h hq => h.q hq) (factsX_q _) (factsX_g _) (v0) (HST.out) ?_ ?_
  · refine ⟨?_, ?_, ?_, ?_, ?_, ?_, ?_, ?_, ?_, ?_, ?_, ?_, ?_, trivial⟩
    · intro ax wx vx cx hj hfr hd
      have f1 : ax.tmps.getD 1 undef = .pointer (some ⟨g, 0, none⟩) := (hfr 1 (by kernel_rfl)).trans rfl
      have e1 := (getD_form _ _).symm.trans f1
      exact .inl ⟨wanted_free rfl, OpDoes.run (v := .pointer (some ⟨g, 0, none⟩)) (w' := wx) (by unfold execOp; simp only [Act.eval, f1, Sem.run_pure]) ⟨Below.refl _ _, rfl⟩⟩
    · intro ax wx vx cx hj hfr hd
      have f2 : ax.tmps.getD 2 undef = .pointer (some ⟨w.heap.size, 0, none⟩) := (hfr 2 (by kernel_rfl)).trans rfl
      have e2 := (getD_form _ _).symm.trans f2
      exact .inl ⟨wanted_free rfl, OpDoes.run (v := .pointer (some ⟨w.heap.size, 0, none⟩)) (w' := wx) (by unfold execOp; simp [go_sem, Act.eval, e2]) ⟨Below.refl _ _, rfl⟩⟩
    · intro ax wx vx cx hj hfr hd
      have f5 : ax.tmps.getD 5 undef = .pointer (some ⟨w.heap.size, 0, none⟩) := hd 1 (by kernel_rfl) _ _ rfl rfl
      have e5 := (getD_form _ _).symm.trans f5
      have hc := (NodeAt.of_row (hj.only.row HB.out HBO.out)).name
      exact .inl ⟨wanted_free rfl, OpDoes.run (v := .string n.name) (w' := wx) (by unfold execOp; simp [go_sem, Act.eval, e5, hc]) ⟨Below.refl _ _, rfl⟩⟩
    · intro ax wx vx cx hj hfr hd
      have f6 : ax.tmps.getD 6 undef = .string n.name := hd 2 (by kernel_rfl) _ _ rfl rfl
      have e6 := (getD_form _ _).symm.trans f6
      exact .inl ⟨wanted_free rfl, OpDoes.run (v := .slice (some ⟨wx.heap.size, 0, none⟩) 1 1) (w' := wx.alloc (.cells #[.string n.name] 9)) (by unfold execOp; simp [go_sem, Act.eval, e6]) ⟨(Q.refl wx).alloc _, RowG.new (t := 9) [.string n.name] (fun hO => by have := hj.has.lt _ hO; omega)⟩⟩
    · intro ax wx vx hj hfr hd
      have f4 : ax.tmps.getD 4 undef = .pointer (some ⟨g, 0, none⟩) := hd 0 (by kernel_rfl) _ _ rfl rfl
      have e4 := (getD_form _ _).symm.trans f4
      have h7 : (fun u v w => RowG g u v w 1 [.string n.name]) (ax.tmps.getD 7 undef) vx wx := hd 3 (by kernel_rfl) _ _ rfl rfl
      obtain ⟨b, q1, q2, q3, q4⟩ := h7
      have hk := texts_ok base g (e, L).1 1 (some ⟨b, 0, none⟩) [n.name] (e, L).2 vx (fun k => k = b) wx hj.has q2 (fun k hk => by subst hk; exact ⟨q3, q4⟩) (by simp; omega) (by simp) (fun t ht => by obtain rfl := List.mem_singleton.1 ht; exact HNS.out)
      have q0 := (getD_form _ _).symm.trans q1
      exact ⟨wanted_free rfl, OpDoes.call (f := 50) (args := #[.pointer (some ⟨g, 0, none⟩), .slice (some ⟨b, 0, none⟩) 1 1]) (w' := wx) (by unfold execOp; simp [go_sem, Act.eval, e4, q0]) (hk.mono fun e_ w2 ⟨v', h1, h2⟩ => ⟨_, h1, v', ⟨h2.only, h2.newV⟩, OutSt.trans hj h2, rfl⟩)⟩
    · intro ax wx vx cx hj hfr hd
      have f2 : ax.tmps.getD 2 undef = .pointer (some ⟨w.heap.size, 0, none⟩) := (hfr 2 (by kernel_rfl)).trans rfl
      have e2 := (getD_form _ _).symm.trans f2
      exact .inl ⟨wanted_free rfl, OpDoes.run (v := .pointer (some ⟨w.heap.size, 1, none⟩)) (w' := wx) (by unfold execOp; simp [go_sem, Act.eval, e2]) ⟨Below.refl _ _, rfl⟩⟩
    · intro ax wx vx cx hj hfr hd
      have f9 : ax.tmps.getD 9 undef = .pointer (some ⟨w.heap.size, 1, none⟩) := hd 5 (by kernel_rfl) _ _ rfl rfl
      have e9 := (getD_form _ _).symm.trans f9
      have hc := (NodeAt.of_row (hj.only.row HB.out HBO.out)).kind
      exact .inl ⟨wanted_free rfl, OpDoes.run (v := .int .i64 n.kind) (w' := wx) (by unfold execOp; simp [go_sem, Act.eval, e9, hc]) ⟨Below.refl _ _, rfl⟩⟩
    · intro ax wx vx cx hj hfr hd
      have f2 : ax.tmps.getD 2 undef = .pointer (some ⟨w.heap.size, 0, none⟩) := (hfr 2 (by kernel_rfl)).trans rfl
      have e2 := (getD_form _ _).symm.trans f2
      exact .inl ⟨wanted_free rfl, OpDoes.run (v := .pointer (some ⟨w.heap.size, 2, none⟩)) (w' := wx) (by unfold execOp; simp [go_sem, Act.eval, e2]) ⟨Below.refl _ _, rfl⟩⟩
    · intro ax wx vx cx hj hfr hd
      have f11 : ax.tmps.getD 11 undef = .pointer (some ⟨w.heap.size, 2, none⟩) := hd 7 (by kernel_rfl) _ _ rfl rfl
      have e11 := (getD_form _ _).symm.trans f11
      have hc := (NodeAt.of_row (hj.only.row HB.out HBO.out)).mode
      exact .inl ⟨wanted_free rfl, OpDoes.run (v := .int .i64 n.mode) (w' := wx) (by unfold execOp; simp [go_sem, Act.eval, e11, hc]) ⟨Below.refl _ _, rfl⟩⟩
    · intro ax wx vx cx hj hfr hd
      have f2 : ax.tmps.getD 2 undef = .pointer (some ⟨w.heap.size, 0, none⟩) := (hfr 2 (by kernel_rfl)).trans rfl
      have e2 := (getD_form _ _).symm.trans f2
      exact .inl ⟨wanted_free rfl, OpDoes.run (v := .pointer (some ⟨w.heap.size, 3, none⟩)) (w' := wx) (by unfold execOp; simp [go_sem, Act.eval, e2]) ⟨Below.refl _ _, rfl⟩⟩
    · intro ax wx vx cx hj hfr hd
      have f13 : ax.tmps.getD 13 undef = .pointer (some ⟨w.heap.size, 3, none⟩) := hd 9 (by kernel_rfl) _ _ rfl rfl
      have e13 := (getD_form _ _).symm.trans f13
      have hc := (NodeAt.of_row (hj.only.row HB.out HBO.out)).time
      exact .inl ⟨wanted_free rfl, OpDoes.run (v := .int .i64 n.time) (w' := wx) (by unfold execOp; simp [go_sem, Act.eval, e13, hc]) ⟨Below.refl _ _, rfl⟩⟩
    · intro ax wx vx cx hj hfr hd
      have f10 : ax.tmps.getD 10 undef = .int .i64 n.kind := hd 6 (by kernel_rfl) _ _ rfl rfl
      have e10 := (getD_form _ _).symm.trans f10
      have f12 : ax.tmps.getD 12 undef = .int .i64 n.mode := hd 8 (by kernel_rfl) _ _ rfl rfl
      have e12 := (getD_form _ _).symm.trans f12
      have f14 : ax.tmps.getD 14 undef = .int .i64 n.time := hd 10 (by kernel_rfl) _ _ rfl rfl
      have e14 := (getD_form _ _).symm.trans f14
      exact .inl ⟨wanted_free rfl, OpDoes.run (v := .slice (some ⟨wx.heap.size, 0, none⟩) 3 3) (w' := wx.alloc (.cells #[.int .i64 n.kind, .int .i64 n.mode, .int .i64 n.time] 3)) (by unfold execOp; simp [go_sem, Act.eval, e10, e12, e14]) ⟨(Q.refl wx).alloc _, RowG.new (t := 3) [.int .i64 n.kind, .int .i64 n.mode, .int .i64 n.time] (fun hO => by have := hj.has.lt _ hO; omega)⟩⟩
    · intro ax wx vx hj hfr hd
      have f8 : ax.tmps.getD 8 undef = .pointer (some ⟨g, 0, none⟩) := hd 4 (by kernel_rfl) _ _ rfl rfl
      have e8 := (getD_form _ _).symm.trans f8
      have h15 : (fun u v w => RowG g u v w 3 [.int .i64 n.kind, .int .i64 n.mode, .int .i64 n.time]) (ax.tmps.getD 15 undef) vx wx := hd 11 (by kernel_rfl) _ _ rfl rfl
      obtain ⟨b, q1, q2, q3, q4⟩ := h15
      have hk := nums_ok base g (textStep (e, L) n.name).1 3 (some ⟨b, 0, none⟩) [n.kind, n.mode, n.time] (textStep (e, L) n.name).2 vx (fun k => k = b) wx hj.has q2 (fun k hk => by subst hk; exact ⟨q3, q4⟩) (by have := textStep_len (e, L) n.name; simp at this ⊢; omega) (by simp)
      have q0 := (getD_form _ _).symm.trans q1
      exact ⟨wanted_free rfl, OpDoes.call (f := 33) (args := #[.pointer (some ⟨g, 0, none⟩), .slice (some ⟨b, 0, none⟩) 3 3]) (w' := wx) (by unfold execOp; simp [go_sem, Act.eval, e8, q0]) (hk.mono fun e_ w2 ⟨v', h1, h2⟩ => ⟨_, h1, v', ⟨h2.only, h2.newV⟩, OutSt.trans hj h2, rfl⟩)⟩
  · intro us wx vx hj hf
    have HJX := Lib.hid hj
    clear hf hj
    simp only [List.drop_succ_cons, List.drop_zero, List.drop_nil, List.take_succ_cons, List.take_zero, List.take_nil, fillSlots, List.setIfInBounds_toArray, List.set_cons_succ, List.set_cons_zero]
  -- DNE
    have HNX : Hid (NodeAt wx w.heap.size 0 n A pn pc) := Lib.hid (NodeAt.of_row (HJX.out.only.row HB.out HBO.out))
    have HS1 : Hid (SeesP w1 ok A (n.ids.flatMap gL)) := Lib.hid (HS.out.belowP (fun b hb => (HOK.out b hb).1) HQ1.out)
    have HOK1 : Hid (∀ b, ok b → b < w1.heap.size ∧ ¬ OutS g v0 b) := Lib.hid fun b hb => ⟨by have := (HOK.out b hb).1; have := HQ1.out.size; omega, (HOK.out b hb).2⟩
    obtain ⟨c0, c1, c2, c3, c4, c5, c6⟩ := nd_cells HNX.out
    obtain ⟨⟨e2, L2⟩, hs2⟩ : ∃ s2, s2 = putSt (e, L) n 2 := ⟨_, rfl⟩
    have HL2 : Hid (L2.length ≤ 20001000000) := Lib.hid (by
      have h1 := numSteps_len [n.kind, n.mode, n.time] (textStep (e, L) n.name)
      have h2 := textStep_len (e, L) n.name
      have h3 : L2 = ([n.kind, n.mode, n.time].foldl numStep (textStep (e, L) n.name)).2 := congrArg Prod.snd hs2
      rw [h3]
      simp only [List.length_cons, List.length_nil] at h1 h2
      omega)
    have HS2 : Hid ((e2, L2) = [n.kind, n.mode, n.time].foldl numStep (textStep (e, L) n.name)) := Lib.hid hs2
    rw [← hs2] at HJX
    have HJ2 : Hid (OutSt w1 v0 wx base g e2 L2 vx) := HJX
    clear HJX hs2 c0 c2 c3
    obtain ⟨kd, hkd⟩ : ∃ kd, kd = n.kind := ⟨_, rfl⟩
    rw [← hkd] at c1
    have HKD := Lib.hid hkd
    clear hkd
    by_cases k0 : kd = 0
    · subst k0
      have HR : Hid (putStep (e, L) n = n.ids.foldl rawStep ([n.size, (n.ids.length : Int)].foldl numStep (e2, L2))) := Lib.hid (by
        unfold putStep; rw [if_pos HKD.out.symm, HS2.out])
      obtain ⟨⟨e3, L3⟩, hs3⟩ : ∃ s2, s2 = [n.size, (pn : Int)].foldl numStep (e2, L2) := ⟨_, rfl⟩
      rw [HF.out.ids, ← hs3] at HR
      have HL3 : Hid (L3.length ≤ 20001001000) := Lib.hid (by
        have h1 := numSteps_len [n.size, (pn : Int)] (e2, L2)
        have h3 : L3 = ([n.size, (pn : Int)].foldl numStep (e2, L2)).2 := congrArg Prod.snd hs3
        have := HL2.out
        rw [h3]
        simp only [List.length_cons, List.length_nil] at h1
        omega)
      have HN3 : Hid (∀ t, Calls Try.prog 33 #[.pointer (some ⟨g, 0, none⟩), .slice (some ⟨wx.heap.size, 0, none⟩) 2 2] (wx.alloc (.cells #[.int .i64 n.size, .int .i64 (pn : Int)] t)) fun e_ w' => ∃ v', e_ = .returned (.pointer (some ⟨g, 0, none⟩)) ∧ Hid (OutSt w1 v0 w' base g e3 L3 v')) := Lib.hid fun t => by
        have h := nums_new [n.size, (pn : Int)] t HJ2.out (by have := HL2.out; omega) (by simp)
        rw [← hs3] at h
        exact h
      clear hs3
      have hpn' := HF.out.max
      go_wp2_with (first
        | (go_at_call 33; go_loud ((with_reducible refine (HN3.out _).mono ?_); rintro e4 w4 ⟨v4, rfl, H4⟩; have c6' := (H4.out.only.row HB.out HBO.out).cell (i := 6) (by omega); have c6 : w4.cell? ⟨w.heap.size, 6, none⟩ = some (.slice A pn pc) := c6'; clear c6'))
        | (go_at_call 51; go_loud ((with_reducible refine (ids_ok base g e3 L3 v4 A pn pc n.ids ok w4 H4.out.has (H4.out.only.sees HS1.out HOK1.out) (H4.out.okk HQ1.out HOK.out) HF.out.ids HID.out (by have := HL3.out; omega) (by omega)).mono ?_); rintro e5 w5 ⟨v5, rfl, H5⟩)))
      refine bodyPost_end (results_none rfl _ _ _) rfl ⟨v5, rfl, by rw [HR.out]; exact Lib.hid (OutSt.lift HH.out HQ1.out (OutSt.trans H4.out H5.out))⟩
    by_cases k1 : kd = 1
    · subst k1
      have HR : Hid (putStep (e, L) n = [n.tree].foldl rawStep (e2, L2)) := Lib.hid (by
        unfold putStep; rw [if_neg (by rw [← HKD.out]; decide), if_pos HKD.out.symm, HS2.out])
      have HI5 : Hid (∀ t, Calls Try.prog 51 #[.pointer (some ⟨g, 0, none⟩), .slice (some ⟨wx.heap.size, 0, none⟩) 1 1] (wx.alloc (.cells (gL n.tree).toArray t)) (OutPut (wx.alloc (.cells (gL n.tree).toArray t)) base g ([n.tree].foldl rawStep (e2, L2)) vx)) := Lib.hid fun t => by
        have hq : Q wx (wx.alloc (.cells (gL n.tree).toArray t)) := (Q.refl wx).alloc _
        refine ids_ok base g e2 L2 vx (some ⟨wx.heap.size, 0, none⟩) 1 1 [n.tree] (fun k => k = wx.heap.size) _ (HJ2.out.has.q hq) ?_ (fun k hk => by subst hk; exact ⟨by rw [alloc_size]; omega, fun hO => by have := HJ2.out.has.lt _ hO; omega⟩) rfl (fun i hi => by obtain rfl := List.mem_singleton.1 hi; exact ⟨HF.out.tree, HTR.out⟩) (by have := HL2.out; omega) (by omega)
        have h := SeesP.newAt wx (gL n.tree) t
        simpa using h
      go_wp2_with (first
        | ((with_reducible refine gate 37 rfl ?_); go_loud (refine wpList_val rfl (load_id 7 (.tmp 36) rfl rfl HNX.out.tree) ?_))
        | ((with_reducible refine gate 38 rfl ?_); go_loud (refine wpList_val rfl (run_row_id (.tmp 37) rfl _ rfl _) ?_))
        | (go_at_call 51; go_loud ((with_reducible refine (HI5.out _).mono ?_); rintro e5 w5 ⟨v5, rfl, H5⟩)))
      refine bodyPost_end (results_none rfl _ _ _) rfl ⟨v5, rfl, by rw [HR.out]; exact Lib.hid (OutSt.lift HH.out HQ1.out (OutSt.trans (HJ2.out.q ((Q.refl wx).alloc _)) H5.out))⟩
    by_cases k2 : kd = 2
    · subst k2
      have HR : Hid (putStep (e, L) n = textStep (e2, L2) n.target) := Lib.hid (by
        unfold putStep; rw [if_neg (by rw [← HKD.out]; decide), if_neg (by rw [← HKD.out]; decide), if_pos HKD.out.symm, HS2.out])
      have HT3 := Lib.hid (fun t => texts_new n.target t HJ2.out (by have := HL2.out; omega) HF.out.target)
      go_wp2_with (go_at_call 50; go_loud ((with_reducible refine (HT3.out _).mono ?_); rintro e4 w4 ⟨v4, rfl, H4⟩))
      refine bodyPost_end (results_none rfl _ _ _) rfl ⟨v4, rfl, by rw [HR.out]; exact Lib.hid (OutSt.lift HH.out HQ1.out H4.out)⟩
    · have HR : Hid (putStep (e, L) n = (e2, L2)) := Lib.hid (by
        unfold putStep; rw [if_neg (by rw [← HKD.out]; exact k0), if_neg (by rw [← HKD.out]; exact k1), if_neg (by rw [← HKD.out]; exact k2), HS2.out])
      have b0 : (kd == 0) = false := beq_eq_false_iff_ne.2 k0
      have b1 : (kd == 1) = false := beq_eq_false_iff_ne.2 k1
      have b2 : (kd == 2) = false := beq_eq_false_iff_ne.2 k2
      go_wp2_with fail
      refine bodyPost_end (results_none rfl _ _ _) rfl ⟨vx, rfl, by rw [HR.out]; exact Lib.hid (OutSt.lift HH.out HQ1.out HJ2.out)⟩
end Go.Proofs.Ytffenfhbiapefaa
