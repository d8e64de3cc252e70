/- The walks through glyph's Out: Flag, Begin. -/
import Derived.Test.YtffenfhbiapefaaGlyC
import Derived.Lib.SlBytesConst
namespace Go.Proofs.Ytffenfhbiapefaa
set_option linter.unusedVariables false
set_option linter.unusedSimpArgs false
open Go.RowKit

section
variable {w0 w w' : World} {v0 v : Value} {base g e : Nat} {L : List Nat}
theorem OutSt.q (h : OutSt w0 v0 w base g e L v) (hq : Q w w') : OutSt w0 v0 w' base g e L v :=
  h.trans ⟨h.has.q hq, Only.of_q hq, fun _ hk => .inl hk⟩
end
theorem alloc_size (w : World) (o : Obj) : (w.alloc o).heap.size = w.heap.size + 1 := by simp
theorem SeesP.newAt (w : World) (cs : List Value) (t : TypeId) : SeesP (w.alloc (.cells cs.toArray t)) (fun k => k = w.heap.size) (some ⟨w.heap.size, 0, none⟩) cs := fun _ =>
  ⟨_, 0, rfl, rfl, fun j u hu => by
    have h := heap_alloc_new w (.cells cs.toArray t)
    simp only [World.cell?, h]
    simpa using hu⟩
theorem SeesP.marked (w : World) (cs : List Value) (t : TypeId) (fz : Nat × Nat) : SeesP (w.alloc (.cells cs.toArray t fz)) (fun k => k = w.heap.size) (some ⟨w.heap.size, 0, none⟩) cs := fun _ =>
  ⟨_, 0, rfl, rfl, fun j u hu => by
    have h := heap_alloc_new w (.cells cs.toArray t fz)
    simp only [World.cell?, h]
    simpa using hu⟩
/-- A row of bytes, and a row with it alone. -/
def twoRows (w : World) (x : Nat) : World := (w.alloc (.cells #[B8 x] 5)).alloc (.cells #[.slice (some ⟨w.heap.size, 0, none⟩) 1 1] 40)
theorem twoRows_q (w : World) (x : Nat) : Q w (twoRows w x) := ((Q.refl w).alloc _).alloc _
theorem raw_new (base g e x : Nat) (hx : x ≤ 255) (L : List Nat) (v : Value) (w : World) (h : OutHas w base g e L v) (hL : L.length ≤ 49999999999) :
    Calls Try.prog 63 #[.pointer (some ⟨g, 0, none⟩), .slice (some ⟨w.heap.size + 1, 0, none⟩) 1 1] (twoRows w x) (OutBack (twoRows w x) base g (rawStep (e, L) [x]) v) := by
  refine raws_ok base g e 1 (some ⟨w.heap.size + 1, 0, none⟩) [(.slice (some ⟨w.heap.size, 0, none⟩) 1 1, [x])] L v (fun k => w.heap.size ≤ k ∧ k < w.heap.size + 2) (twoRows w x) (h.q (twoRows_q w x)) ?_ ?_ ?_ (by simp; omega) (by simp)
  · have h1 := SeesP.newAt (w.alloc (.cells #[B8 x] 5)) [.slice (some ⟨w.heap.size, 0, none⟩) 1 1] 40
    simp only [alloc_size] at h1
    exact h1.more (fun b hb => by subst hb; omega)
  · intro z hz
    rw [List.mem_singleton] at hz
    subst hz
    exact ⟨some ⟨w.heap.size, 0, none⟩, 1, rfl, ((SeesP.newAt w [B8 x] 5).alloc (fun b hb => by subst hb; rw [alloc_size]; omega) _).more (fun b hb => by subst hb; omega), by simpa using hx, fun h => by cases h⟩
  · rintro k ⟨hk1, hk2⟩
    refine ⟨by unfold twoRows; simp only [alloc_size]; omega, fun hO => ?_⟩
    have := h.lt k hO
    omega

/-- append to a row that is full. -/
theorem run_append_full {P : Program} (w : World) (t ty e : TypeId) (i : TypeInfo) (z : Value) (bytes : Nat) (ht : P.underlying t = some (.slice e)) (hi : P.info? e = some i) (hz : i.zero = some z) (hsize : i.size = 1) (hby : i.bytes = bytes) (hzs : z.cells.size = 1)
    (ok ok' : Nat → Prop) (A B : Option Addr) (n m c : Nat) (olds news : List Value) (hlo : olds.length = n) (hln : news.length = m) (hn : 0 < n) (hm : 0 < m) (hso : SeesP w ok A olds) (hsn : SeesP w ok' B news)
    (h63 : n + m ≤ maxLen) (hbytes : (n + m) * bytes ≤ 140737488355328) :
    ∃ v' w', (Builtin.append_ #[t, t] ty #[.slice A n n, .slice B m c]).run P w = .ok v' w' ∧ w'.ownsRow w.heap.size e 1 v' (n + m) (olds ++ news) ∧ Q w w' := by
  have add : ∀ (b o' j : Nat), (⟨b, o', none⟩ : Addr).add j = ⟨b, o' + j, none⟩ := fun b o' j => by
    unfold Addr.add
    split
    · rename_i h; subst h; rfl
    · rfl
  obtain ⟨b, o', rfl, _, hc⟩ := hso (by intro h; rw [h] at hlo; simp at hlo; omega)
  obtain ⟨b2, o2, rfl, _, hc2⟩ := hsn (by intro h; rw [h] at hln; simp at hln; omega)
  have hr := run_append_grow (P := P) w t ty e i z ht hi hz ⟨b, o', none⟩ n n olds (by rw [hsize]; omega) (fun j u hu => by rw [add]; exact hc j u hu) ⟨b2, o2, none⟩ m c news (by rw [hsize]; omega) (fun j u hu => by rw [add]; exact hc2 j u hu) (by omega) (by simp only [maxLen] at h63; omega) (by rw [hby]; exact growslice_fits (by omega) hbytes)
  have hge := grownCap_ge w (n + m) n e
  refine ⟨_, _, hr, ⟨by simp [hlo, hln], .inr ⟨w.heap.size, _, _, rfl, Nat.le_refl _, heap_alloc_new w.drew _, hge, grownCap_le_maxLen w (n + m) n e h63, ?_, ?_⟩⟩, (Q.refl w).drew.alloc _⟩
  · simp only [Array.size_append, List.size_toArray, size_zeroCells, hzs, hlo, hln]
    omega
  · simp only [Array.toList_append]
    rw [show (n + m) * 1 = (olds ++ news).length by simp [hlo, hln]]
    exact List.take_left

theorem wpList_append_full {P : Program} {w : World} {ops : Array Oper} {rest : List Oper} {o : Oper} {a : Act} {Q' : Exit → Act → World → Prop} (hgd : o.guard = none) (s x : Operand) (t : TypeId)
    (ho : o.op = .call { callee := .builtin .append, args := #[s, x], argTypes := #[t, t] })
    (e : TypeId) (i : TypeInfo) (z : Value) (bytes : Nat) (ht : P.underlying t = some (.slice e)) (hi : P.info? e = some i) (hz : i.zero = some z) (hsize : i.size = 1) (hby : i.bytes = bytes) (hzs : z.cells.size = 1)
    (ok ok' : Nat → Prop) (A B : Option Addr) (n m c : Nat) (olds news : List Value) (hs : a.eval s = .slice A n n) (hx : a.eval x = .slice B m c) (hlo : olds.length = n) (hln : news.length = m) (hn : 0 < n) (hm : 0 < m) (hso : SeesP w ok A olds) (hsn : SeesP w ok' B news)
    (h63 : n + m ≤ maxLen) (hbytes : (n + m) * bytes ≤ 140737488355328)
    (h : ∀ v' w', w'.ownsRow w.heap.size e 1 v' (n + m) (olds ++ news) → Q w w' → wpList P ops Q' rest (a.put o.dst v') w') : wpList P ops Q' (o :: rest) a w :=
  wpList_plain hgd fun K hK => by
    obtain ⟨v', w', hr', h2, h3⟩ := run_append_full (P := P) w t o.type e i z bytes ht hi hz hsize hby hzs ok ok' A B n m c olds news hlo hln hn hm hso hsn h63 hbytes
    unfold Oper.wp execOp
    simp only [ho, resolve, invoke, builtin, Sem.run_bind, Sem.run_pure, Result.andThen_ok, List.map_toArray, List.map_cons, List.map_nil, hs, hx, hr']
    exact hK _ _ (h v' w' h2 h3)

/-- A new Out. -/
def OutNew (w : World) (L : List Nat) (e_ : Ending) (w' : World) : Prop := ∃ g v, e_ = .returned (.pointer (some ⟨g, 0, none⟩)) ∧ OutHas w' w.heap.size g 0 L v ∧ Q w w'
set_option maxHeartbeats 4000000 in
theorem begin_ok (k : Nat) (hk : k ≤ 255) (w : World) : Calls Try.prog 32 #[.int .u8 (k : Int)] w (OutNew w [72, 89, k]) := by
  obtain ⟨i0, hi, hz0, hz1, hz2⟩ := info_parts info8
  have kc := fun (w : World) (C : Array Value) (n c : Nat) => Lib.run_convert_bytes_const (P := Try.prog) w 40 5 C n c Try.underlying40 Try.underlying5
  go_enter Try.func32, Try.ntmps32
  have HO := Lib.hid (((SeesP.marked w [.int .u8 72, .int .u8 89] 5 (2, 3)).alloc (fun b hb => by subst hb; rw [alloc_size]; omega) (.cells #[.int .u8 (k : Int)] 5)))
  have HN := Lib.hid (SeesP.newAt (w.alloc (.cells #[.int .u8 72, .int .u8 89] 5 (2, 3))) [.int .u8 (k : Int)] 5)
  have HQ := Lib.hid (((Q.refl w).alloc (.cells #[.int .u8 72, .int .u8 89] 5 (2, 3))).alloc (.cells #[.int .u8 (k : Int)] 5))
  rw [alloc_size] at HN
  go_wp2_with (at_builtin; go_loud (refine wpList_append_full rfl (.tmp 4) (.tmp 6) 40 rfl 5 i0 (.int .u8 0) 1 Try.underlying40 hi hz0 hz1 hz2 rfl _ _ _ _ 2 1 1 _ _ rfl rfl rfl rfl (by omega) (by omega) HO.out HN.out (by unfold maxLen; omega) (by omega) ?_; intro v1 w1 hown1 hq1; obtain ⟨gg, cap, rfl⟩ := own_form hown1; have H1 := Lib.hid (And.intro hown1 hq1); clear hown1 hq1))
  go_ret
  have hQ : Q w w1 := HQ.out.trans (H1.out.2.mono HQ.out.size)
  have hown : w1.ownsRow w.heap.size 5 1 (.slice gg 3 cap) 3 ([72, 89, k].map B8) := own_mono H1.out.1 HQ.out.size
  refine ⟨w1.heap.size, .slice gg 3 cap, rfl, ⟨?_, own_only hown (Only.of_q (S := fun _ => False) ((Q.refl w1).alloc _)) (fun _ _ => id), fun e => ?_, hQ.size, ?_⟩, hQ.alloc _⟩
  · refine (World.rowIs_alloc w1 #[.slice gg 3 cap, .int .i64 0] 82 _ (fun i hi => ?_))
    have hi : i < 2 := hi
    match i, hi with
    | 0, _ => rfl
    | 1, _ => rfl
  · have := own_lt hown _ e
    omega
  · intro x hx
    simp only [List.mem_cons, List.not_mem_nil, or_false] at hx
    omega
end Go.Proofs.Ytffenfhbiapefaa
