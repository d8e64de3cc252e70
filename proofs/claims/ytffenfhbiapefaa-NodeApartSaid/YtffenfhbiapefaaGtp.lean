/- The walk through node.id: the next name of a piece. -/
import Derived.Test.YtffenfhbiapefaaRdd
import Derived.Deep.Upon
import Derived.Test.YtffenfhbiapefaaIdl
import Derived.Test.YtffenfhbiapefaaSto
import Derived.Test.YtffenfhbiapefaaRegz
namespace Go.Proofs.Ytffenfhbiapefaa
set_option linter.unusedVariables false
set_option linter.unusedSimpArgs false
open Go.RowKit

section
theorem run_arrayAt {op : Oper} {a : Act} (x : Operand) (ho : op.op = .sliceToArrayPointer 24 x) {A : Option Addr} {m c : Nat} (hx : a.eval x = .slice A m c) (hm : m = 32) (w : World) : (execOp a.eval op).run Try.prog w = .ok (.value (.pointer A)) w := by
  subst hm
  have hr : (Instr.arrayAt 24 (.slice A 32 c)).run Try.prog w = .ok (.pointer A) w := by
    simp [Instr.arrayAt, run_underlying Try.underlying24]
  unfold execOp
  simp only [ho, hx, Sem.run_bind, hr, Result.andThen_ok, Sem.run_pure]
theorem run_build_noid {op : Oper} {a : Act} (ho : op.op = .build 24 #[]) (w : World) : (execOp a.eval op).run Try.prog w = .ok (.value (.agg (arrO noId))) w := by
  have hr : (Instr.build 24 #[]).run Try.prog w = .ok (.agg (arrO noId)) w := by kernel_rfl
  unfold execOp
  simp only [ho, List.map_toArray, List.map_nil, Sem.run_bind, hr, Result.andThen_ok, Sem.run_pure]
theorem raw32 {s t : Nat × List Nat} {x : List Nat} (h : rawRd 32 s = (x, t)) : (x.length = 32 ∧ t.1 = 0) ∨ (x.length ≠ 32 ∧ t.1 ≠ 0) := by
  by_cases ht : t.1 = 0
  · exact .inl ⟨(raw_sound (n := 32) h ht).2.2, ht⟩
  · refine .inr ⟨?_, ht⟩
    unfold rawRd at h
    split at h
    · split at h
      · rw [Prod.mk.injEq] at h; rw [← h.1]; simp
      · split at h
        · rw [Prod.mk.injEq] at h; rw [← h.1]; simp
        · rw [Prod.mk.injEq] at h
          rw [← h.2] at ht; exact absurd rfl ht
    · rw [Prod.mk.injEq] at h; rw [← h.1]; simp
theorem sees_bytes_id {w : World} {base : Nat} {e : TypeId} {A : Option Addr} {m c : Nat} {x : List Nat} (h : w.ownsRow base e 1 (.slice A m c) m (x.map B8)) (hl : x.length = 32) : ∃ g, A = some ⟨g, 0, none⟩ ∧ ∀ i, i < 32 → w.cell? ⟨g, 0 + i, none⟩ = some (arrF x i) := by
  obtain ⟨b, o, e1, _, hc⟩ := sees_own h (by intro h0; have := congrArg List.length h0; simp [hl] at this)
  have h2 := h.2
  rcases h2 with ⟨h3, _⟩ | ⟨g, cap, cur, h3, _⟩
  · injection h3 with h3; rw [h3] at e1; cases e1
  · injection h3 with h3
    refine ⟨g, h3, fun i hi => ?_⟩
    rw [h3] at e1
    injection e1 with e1
    injection e1 with e1 e2
    subst e1 e2
    refine hc i _ ?_
    rw [List.getElem?_map, List.getElem?_eq_getElem (by omega)]
    simp [arrF, List.getD_eq_getElem?_getD, List.getElem?_eq_getElem (show i < x.length by omega)]
/-- What a call leaves that hands a name back. -/
def InId (w : World) (base : Nat → Prop) (g : Nat) (r : List Nat × (Nat × List Nat)) (e_ : Ending) (w' : World) : Prop := e_ = .returned (.agg (arrO r.1)) ∧ InHas w' base g r.2.1 r.2.2 ∧ Only (fun k => k = g) w w'
set_option maxHeartbeats 16000000 in
set_option maxRecDepth 100000 in
theorem nid_ok (base : Nat → Prop) (g e : Nat) (L : List Nat) (w : World) (h : InHas w base g e L) :
    Calls Try.prog 57 #[.pointer (some ⟨g, 0, none⟩)] w (InId w base g (idRd (e, L))) := by
  obtain ⟨⟨x, t⟩, hr⟩ : ∃ r, rawRd 32 (e, L) = r := ⟨_, rfl⟩
  have HR := Lib.hid hr
  have HH := Lib.hid h
  have hid : idRd (e, L) = (if t.1 = 0 then x else noId, t) := by unfold idRd; rw [hr]
  rw [hid]
  have hgl := h.lt
  clear h hid
  have HRW : Hid (∀ w1, Q w w1 → Calls Try.prog 64 #[.pointer (some ⟨g, 0, none⟩), .int .i64 32] w1 (InRow w1 (fun k => base k ∧ k < w.heap.size) g (x, t))) := Lib.hid fun w1 hq => by rw [← HR.out]; exact raw_in _ g e L w1 32 (HH.out.cap.q hq)
  rcases raw32 hr with ⟨hx, ht⟩ | ⟨hx, ht⟩
  · rw [if_pos ht]
    have HX := Lib.hid hx
    clear hr hx ht
    go_enter Try.func57, Try.ntmps57
    go_wp2_with (first
      | ((with_reducible refine gate 2 rfl ?_); go_loud (refine wpList_alloc_row rfl 24 rfl _ (zeroI _) 32 _ (arrO_size _) (fun i hi => arrO_get _ hi) ?_; intro w1 hr1 hx1; have H1 := Lib.hid (And.intro hr1 (hx1.q (Q.refl _))); have HC := Lib.hid (HRW.out w1 H1.out.2); clear hr1 hx1))
      | (go_at_call 64; go_loud ((with_reducible refine (HC.out).mono ?_); rintro e2 w2 ⟨B, m, c, rfl, hl2, hown2, hin2, ho2⟩; obtain ⟨g2, rfl, hc2⟩ := sees_bytes_id hown2 HX.out; have hm32 : m = 32 := hl2.symm.trans HX.out; subst hm32; have HIN := Lib.hid (And.intro hin2 ho2); have HC2 := Lib.hid hc2; clear hown2 hin2 ho2 hc2 hl2))
      | ((with_reducible refine gate 11 rfl ?_); go_loud (refine wpList_val rfl (run_arrayAt (.tmp 10) rfl rfl rfl _) ?_))
      | ((with_reducible refine gate 12 rfl ?_); go_loud (refine wpList_val rfl (load_id 0 (.tmp 11) rfl rfl HC2.out) ?_))
      | ((with_reducible refine gate0 rfl ?_); go_loud (refine wpList_store_all rfl 24 (.tmp 2) (.tmp 12) rfl w.heap.size rfl _ rfl 32 sizeI _ (arrO_agg x) (fun i _ => rfl) 24 _ (HIN.out.2.row H1.out.1 (by omega)) ?_; intro w3 hr3 hp3; have H3 := Lib.hid (And.intro hr3 hp3); clear hr3 hp3)))
    refine ret_cell rfl w.heap.size rfl _ Try.underlying24 rfl 32 sizeI (arrF x) (row_cells H3.out.1) rfl (fun v hv => ⟨by rw [arrO_eq hv], ?_, ?_⟩)
    · refine (HIN.out.1.only (S := fun k => k = w.heap.size) ((Only.refl _ _).put H3.out.2 rfl) (by omega) (fun k hk _ _ e => by have := hk.2; omega)).lower fun k hk => hk.1
    · exact ((Only.of_q H1.out.2).trans HIN.out.2).through ((Only.refl (fun k => k = w.heap.size) w2).put H3.out.2 rfl) (fun k hk => .inr (by omega))
  · rw [if_neg ht]
    have HX := Lib.hid hx
    clear hr hx ht
    go_enter Try.func57, Try.ntmps57
    go_wp2_with (first
      | ((with_reducible refine gate 2 rfl ?_); go_loud (refine wpList_alloc_row rfl 24 rfl _ (zeroI _) 32 _ (arrO_size _) (fun i hi => arrO_get _ hi) ?_; intro w1 hr1 hx1; have H1 := Lib.hid (And.intro hr1 (hx1.q (Q.refl _))); have HC := Lib.hid (HRW.out w1 H1.out.2); clear hr1 hx1))
      | (go_at_call 64; go_loud ((with_reducible refine (HC.out).mono ?_); rintro e2 w2 ⟨B, m, c, rfl, hl2, hown2, hin2, ho2⟩; have hm32 : ¬ m = 32 := fun h => HX.out (hl2.trans h); have hm33 : ((m : Int) == 32) = false := beq_eq_false_iff_ne.2 (by omega); have HIN := Lib.hid (And.intro hin2 ho2); clear hown2 hin2 ho2 hl2))
      | ((with_reducible refine gate 9 rfl ?_); go_loud (refine wpList_val rfl (run_build_noid rfl _) ?_))
      | ((with_reducible refine gate0 rfl ?_); go_loud (refine wpList_store_all rfl 24 (.tmp 2) (.tmp 9) rfl w.heap.size rfl _ rfl 32 sizeI _ (arrO_agg noId) (fun i _ => rfl) 24 _ (HIN.out.2.row H1.out.1 (by omega)) ?_; intro w3 hr3 hp3; have H3 := Lib.hid (And.intro hr3 hp3); clear hr3 hp3)))
    refine ret_cell rfl w.heap.size rfl _ Try.underlying24 rfl 32 sizeI (arrF noId) (row_cells H3.out.1) rfl (fun v hv => ⟨by rw [arrO_eq hv], ?_, ?_⟩)
    · refine (HIN.out.1.only (S := fun k => k = w.heap.size) ((Only.refl _ _).put H3.out.2 rfl) (by omega) (fun k hk _ _ e => by have := hk.2; omega)).lower fun k hk => hk.1
    · exact ((Only.of_q H1.out.2).trans HIN.out.2).through ((Only.refl (fun k => k = w.heap.size) w2).put H3.out.2 rfl) (fun k hk => .inr (by omega))
end

section
/-- Whatever holds what is left to be read, at block g: it stays where nothing else than blocks from top on is turned. -/
structure InLike (g top : Nat) (In : World → Nat × List Nat → Prop) : Prop where
  lt : g < top
  keep : ∀ {w w' : World} {s : Nat × List Nat} {S : Nat → Prop}, In w s → Only S w w' → (∀ k, S k → top ≤ k) → In w' s
theorem inLike_in {base : Nat → Prop} {g top : Nat} (h : g < top) : InLike g top (fun w s => InHas w (fun k => base k ∧ k < top) g s.1 s.2) :=
  ⟨h, fun hi ho hS => hi.only ho (fun hg => by have := hS g hg; omega) (fun k hk _ _ hs => by have := hS k hs; have := hk.2; omega)⟩
theorem inLike_of {b' : Nat → Prop} {g top : Nat} (h : g < top) (hb : ∀ k, b' k → k < top) : InLike g top (fun w s => InHas w b' g s.1 s.2) :=
  ⟨h, fun hi ho hS => hi.only ho (fun hg => by have := hS g hg; omega) (fun k hk _ _ hs => by have := hS k hs; have := hb k hk; omega)⟩
structure GetP (T : TypeId) (In : World → Nat × List Nat → Prop) (w0 : World) (g N : Nat) (s : Nat × List Nat) (n : Nd) (B : Option Addr) (bn bc : Nat) (u : Value) (acc : List (List Nat)) (w : World) : Prop where
  inn : In w s
  box : w.rowIs N T 39 (ndF n B bn bc)
  top : w0.heap.size ≤ N
  own : w.ownsRow w0.heap.size 24 32 u acc.length (idsL acc)
  far : u.ownBlock ≠ some N
  only : Only (fun k => k = g) w0 w
section
variable {T : TypeId} {In : World → Nat × List Nat → Prop} {w0 w w' : World} {g N : Nat} {s s' : Nat × List Nat} {n n' : Nd} {B B' : Option Addr} {bn bc bn' bc' : Nat} {u u' : Value} {acc : List (List Nat)}
theorem GetP.keep (hI : InLike g w0.heap.size In) (h : GetP T In w0 g N s n B bn bc u acc w) {S : Nat → Prop} (ho : Only S w w') (hS : ∀ k, S k → w0.heap.size ≤ k) (hN : ¬ S N) (hu : ∀ k, u.ownBlock = some k → ¬ S k) : GetP T In w0 g N s n B bn bc u acc w' :=
  ⟨hI.keep h.inn ho hS, ho.row h.box hN, h.top, own_only h.own ho hu, h.far, h.only.through ho fun k hk => .inr (hS k hk)⟩
theorem GetP.q (hI : InLike g w0.heap.size In) (h : GetP T In w0 g N s n B bn bc u acc w) (hq : Below w.heap.size w w') : GetP T In w0 g N s n B bn bc u acc w' :=
  h.keep hI (S := fun _ => False) (Only.of_q hq) (fun _ h => h.elim) id (fun _ _ h => h)
/-- The In was turned. -/
theorem GetP.turn (hI : InLike g w0.heap.size In) (h : GetP T In w0 g N s n B bn bc u acc w) (hi : In w' s') (ho : Only (fun k => k = g) w w') : GetP T In w0 g N s' n B bn bc u acc w' :=
  ⟨hi, ho.row h.box (by have := hI.lt; have := h.top; omega), h.top, own_only h.own ho (fun k hk e => by have := own_block h.own k hk; have := hI.lt; omega), h.far, h.only.trans ho⟩
/-- The box was written. -/
theorem GetP.put (hI : InLike g w0.heap.size In) (h : GetP T In w0 g N s n B bn bc u acc w) (hp : Put N w w') (hr : w'.rowIs N T 39 (ndF n' B' bn' bc')) : GetP T In w0 g N s n' B' bn' bc' u acc w' := by
  have ho : Only (fun k => k = N) w w' := (Only.refl _ _).put hp rfl
  have ht := h.top
  exact ⟨hI.keep h.inn ho (fun k hk => by omega), hr, h.top, own_only h.own ho (fun k hk e => h.far (by rw [hk, e])), h.far, h.only.through ho fun k hk => .inr (by omega)⟩
/-- A name was put behind the list. -/
theorem GetP.app (hI : InLike g w0.heap.size In) (h : GetP T In w0 g N s n B bn bc u acc w) {x : List Nat} (hg : Grew w w' u u') (hown : w'.ownsRow w0.heap.size 24 32 u' (acc.length + 1) (idsL acc ++ gL x)) : GetP T In w0 g N s n B bn bc u' (acc ++ [x]) w' := by
  have ho : Only (fun k => u.ownBlock = some k) w w' := ⟨hg.os, hg.tape, hg.output, hg.size, fun k hk hs => hg.block k hk hs⟩
  have hS : ∀ k, u.ownBlock = some k → w0.heap.size ≤ k := fun k hk => own_block h.own k hk
  refine ⟨hI.keep h.inn ho hS, ho.row h.box h.far, h.top, by simpa [idsL] using hown, fun e => ?_, h.only.through ho fun k hk => .inr (hS k hk)⟩
  rcases hg.own with h1 | ⟨k, h1, h2⟩
  · exact h.far (h1 ▸ e)
  · rw [h1] at e; injection e with e
    have := h.box.lt
    omega
theorem GetP.node (h : GetP T In w0 g N s n B bn bc u acc w) : NodeAt w N 0 n B bn bc := NodeAt.of_row h.box
end
theorem does_store_one {P : Program} {w : World} {o : Oper} {a : Act} {Post : Value → World → Prop} (ty : TypeId) (ad x : Operand) (ho : o.op = .store ty ad x) (g off : Nat) (had : a.eval ad = .pointer (some ⟨g, off, none⟩)) (v : Value) (hx : a.eval x = v)
    (hi : (P.info? ty).map (·.size) = some 1) (hv : v.cells = #[v]) (h1 : v.oneCell' = true)
    (t : TypeId) (m : Nat) (f : Nat → Value) (hr : w.rowIs g t m f) (hm : off < m)
    (h : ∀ w', w'.rowIs g t m (fun i => if i = off then v else f i) → Put g w w' → Post undef w') : OpDoes P o a w Post := by
  obtain ⟨w', hrun, hrow, hput⟩ := run_storeVar_one (P := P) (w := w) g off ty t hi v hv h1 m f hr hm
  refine OpDoes.skip (w' := w') ?_ (h w' hrow hput)
  unfold execOp
  simp only [ho, had, hx, Instr.storeAt, Instr.sureAddr, Sem.run_bind, Sem.run_pure, Result.andThen_ok, hrun]
/-- A region that puts a name behind the list: how far it is. -/
def PushJ (T : TypeId) (In : World → Nat × List Nat → Prop) (w0 : World) (g N : Nat) (s s' : Nat × List Nat) (n : Nd) (A : Option Addr) (j pc : Nat) (acc : List (List Nat)) (x : List Nat) (c : Nat) (v : List Value) (w : World) : Prop :=
  match c with
  | 0 => v = [] ∧ GetP T In w0 g N s { n with ids := acc } A j pc (.slice A j pc) acc w
  | 1 => v = [] ∧ GetP T In w0 g N s' { n with ids := acc } A j pc (.slice A j pc) acc w
  | 2 => ∃ B bc, v = [.slice B (j + 1) bc] ∧ GetP T In w0 g N s' { n with ids := acc } A j pc (.slice B (j + 1) bc) (acc ++ [x]) w
  | _ => ∃ B bc, v = [.slice B (j + 1) bc] ∧ GetP T In w0 g N s' { n with ids := acc ++ [x] } B (j + 1) bc (.slice B (j + 1) bc) (acc ++ [x]) w
def curV (u0 : Value) (v : List Value) : Value := v.getLastD u0
def PushGh (g N : Nat) (u0 : Value) (v : List Value) (w : World) (v' : List Value) (w' : World) : Prop :=
  (∃ r, v' = v ++ r) ∧ Only (fun k => k = g ∨ k = N ∨ (curV u0 v).ownBlock = some k) w w' ∧ ((curV u0 v').ownBlock = (curV u0 v).ownBlock ∨ ∃ k, (curV u0 v').ownBlock = some k ∧ w.heap.size ≤ k)
theorem PushJ.q {T : TypeId} {In : World → Nat × List Nat → Prop} {w0 : World} {g N : Nat} {s s' : Nat × List Nat} {n : Nd} {A : Option Addr} {j pc : Nat} {acc : List (List Nat)} {x : List Nat} (hI : InLike g w0.heap.size In) (c : Nat) (v : List Value) (w w' : World)
    (h : PushJ T In w0 g N s s' n A j pc acc x c v w) (hq : Below w.heap.size w w') : PushJ T In w0 g N s s' n A j pc acc x c v w' := by
  unfold PushJ at h ⊢
  split at h
  · exact ⟨h.1, h.2.q hI hq⟩
  · exact ⟨h.1, h.2.q hI hq⟩
  · obtain ⟨B, bc, h1, h2⟩ := h; exact ⟨B, bc, h1, h2.q hI hq⟩
  · obtain ⟨B, bc, h1, h2⟩ := h; exact ⟨B, bc, h1, h2.q hI hq⟩
/-- A name in a row of its own. -/
def OneId (g N : Nat) (u0 : Value) (x : List Nat) (u : Value) (v : List Value) (w : World) : Prop := ∃ k, u = .slice (some ⟨k, 0, none⟩) 1 1 ∧ k < w.heap.size ∧ k ≠ g ∧ k ≠ N ∧ (curV u0 v).ownBlock ≠ some k ∧ SeesP w (· = k) (some ⟨k, 0, none⟩) (gL x)
theorem OneId.q {g N : Nat} {u0 : Value} {x : List Nat} (u : Value) (v : List Value) (w w' : World) (h : OneId g N u0 x u v w) (hq : Below w.heap.size w w') : OneId g N u0 x u v w' := by
  obtain ⟨k, h1, h2, h3, h4, h5, h6⟩ := h
  exact ⟨k, h1, Nat.lt_of_lt_of_le h2 hq.size, h3, h4, h5, h6.belowP (fun b hb => hb ▸ h2) hq⟩
theorem OneId.g {g N : Nat} {u0 : Value} {x : List Nat} (u : Value) (v : List Value) (w : World) (v' : List Value) (w' : World) (h : OneId g N u0 x u v w) (hg : PushGh g N u0 v w v' w') : OneId g N u0 x u v' w' := by
  obtain ⟨k, h1, h2, h3, h4, h5, h6⟩ := h
  obtain ⟨_, ho, hown⟩ := hg
  refine ⟨k, h1, Nat.lt_of_lt_of_le h2 ho.size, h3, h4, fun e => ?_, ho.sees h6 fun b hb => by subst hb; exact ⟨h2, fun hs => by rcases hs with hs | hs | hs <;> contradiction⟩⟩
  rcases hown with h | ⟨k', h, hge⟩
  · exact h5 (h ▸ e)
  · rw [h] at e; injection e with e; omega
theorem his_q (i : Nat) (u : Value) (v : List Value) (w w' : World) (h : v[i]? = some u) (_ : Below w.heap.size w w') : v[i]? = some u := h
theorem his_g {g N : Nat} {u0 : Value} (i : Nat) (u : Value) (v : List Value) (w : World) (v' : List Value) (w' : World) (h : v[i]? = some u) (hg : PushGh g N u0 v w v' w') : v'[i]? = some u := by
  obtain ⟨⟨r, rfl⟩, _⟩ := hg
  rw [List.getElem?_append_left (List.getElem?_eq_some_iff.1 h).1]; exact h
section
variable {T : TypeId} {In : World → Nat × List Nat → Prop} {w0 w w' : World} {g N : Nat} {s s' : Nat × List Nat} {n : Nd} {A : Option Addr} {j pc : Nat} {acc : List (List Nat)} {x : List Nat} {v : List Value}
/-- Ahead of the store the box holds the elder row. -/
theorem PushJ.old {c : Nat} (hc : c ≤ 2) (h : PushJ T In w0 g N s s' n A j pc acc x c v w) : NodeAt w N 0 { n with ids := acc } A j pc := by
  rcases (show c = 0 ∨ c = 1 ∨ c = 2 by omega) with rfl | rfl | rfl
  · exact h.2.node
  · exact h.2.node
  · obtain ⟨B, bc, _, h⟩ := h; exact h.node
theorem PushJ.any {c : Nat} (h : PushJ T In w0 g N s s' n A j pc acc x c v w) : ∃ u, curV (.slice A j pc) v = u ∧ w0.heap.size ≤ N ∧ N < w.heap.size ∧ Only (fun k => k = g) w0 w ∧ (∀ k, u.ownBlock = some k → k < w.heap.size) := by
  unfold PushJ at h
  split at h
  · obtain ⟨rfl, h⟩ := h; exact ⟨_, rfl, h.top, h.box.lt, h.only, own_lt h.own⟩
  · obtain ⟨rfl, h⟩ := h; exact ⟨_, rfl, h.top, h.box.lt, h.only, own_lt h.own⟩
  · obtain ⟨B, bc, rfl, h⟩ := h; exact ⟨_, rfl, h.top, h.box.lt, h.only, own_lt h.own⟩
  · obtain ⟨B, bc, rfl, h⟩ := h; exact ⟨_, rfl, h.top, h.box.lt, h.only, own_lt h.own⟩
theorem PushJ.newId (hgl : g < w0.heap.size) {c : Nat} (h : PushJ T In w0 g N s s' n A j pc acc x c v w) (y : List Nat) : OneId g N (.slice A j pc) y (.slice (some ⟨w.heap.size, 0, none⟩) 1 1) v (w.alloc (.cells (gL y).toArray 24)) := by
  obtain ⟨u, hu, h1, h2, h3, h4⟩ := h.any
  have h5 := h3.size
  refine ⟨w.heap.size, rfl, by simp, by omega, by omega, fun e => ?_, sees_new w (gL y) _ _ rfl⟩
  rw [hu] at e
  have := h4 _ e
  omega
/-- The In was turned: the first step. -/
theorem PushJ.s0 (hI : InLike g w0.heap.size In) (h : PushJ T In w0 g N s s' n A j pc acc x 0 v w) (hi : In w' s') (ho : Only (fun k => k = g) w w') : PushGh g N (.slice A j pc) v w v w' ∧ PushJ T In w0 g N s s' n A j pc acc x 1 v w' :=
  ⟨⟨⟨[], by simp⟩, ho.mono fun k hk => .inl hk, .inl rfl⟩, h.1, h.2.turn hI hi ho⟩
theorem PushJ.s1 (hI : InLike g w0.heap.size In) (hj : acc.length = j) (h : PushJ T In w0 g N s s' n A j pc acc x 1 v w) {u' : Value} (hg : Grew w w' (.slice A j pc) u') (hown : w'.ownsRow w0.heap.size 24 32 u' (acc.length + 1) (idsL acc ++ gL x)) :
    PushGh g N (.slice A j pc) v w (v ++ [u']) w' ∧ PushJ T In w0 g N s s' n A j pc acc x 2 (v ++ [u']) w' ∧ (v ++ [u'])[0]? = some u' := by
  obtain ⟨rfl, h⟩ := h
  subst hj
  obtain ⟨B, bc, rfl⟩ := own_form hown
  refine ⟨⟨⟨_, rfl⟩, ⟨hg.os, hg.tape, hg.output, hg.size, fun k hk hs => hg.block k hk (fun e => hs (.inr (.inr e)))⟩, ?_⟩, ⟨B, bc, rfl, h.app hI hg hown⟩, rfl⟩
  rcases hg.own with h1 | ⟨k, h1, h2⟩
  · exact .inl h1
  · exact .inr ⟨k, h1, h2⟩
theorem PushJ.s2 (hI : InLike g w0.heap.size In) (h : PushJ T In w0 g N s s' n A j pc acc x 2 v w) {B : Option Addr} {bc : Nat} (hv : v[0]? = some (.slice B (j + 1) bc)) (hp : Put N w w') (hr : w'.rowIs N T 39 (fun i => if i = 6 then .slice B (j + 1) bc else ndF { n with ids := acc } A j pc i)) :
    PushGh g N (.slice A j pc) v w v w' ∧ PushJ T In w0 g N s s' n A j pc acc x 3 v w' := by
  obtain ⟨B', bc', rfl, h⟩ := h
  simp at hv
  obtain ⟨rfl, rfl⟩ := hv
  refine ⟨⟨⟨[], by simp⟩, ((Only.refl (fun k => k = N) w).put hp rfl).mono fun k hk => .inr (.inl hk), .inl rfl⟩, B', bc', rfl, h.put hI hp (hr.congr fun i hi => ?_)⟩
  unfold ndF
  by_cases h6 : i = 6
  · subst h6; rfl
  · rw [if_neg h6]
    simp only [if_neg h6]
end
end
end Go.Proofs.Ytffenfhbiapefaa
