/- The walk through a ring's Id. -/
import Derived.Test.YtcdbffgmgfblkaaDoorKej
import Derived.Test.YtcdbffgmgfblkaaDoorRegt
import Derived.Lib.SlBytesConst
namespace Go.Proofs.YtcdbffgmgfblkaaDoor
set_option linter.unusedVariables false
set_option linter.unusedSimpArgs false
open Go.RowKit

/-- append to a row that is full. -/
theorem run_append_full {P : Program} (w : World) (t ty e : TypeId) (i : TypeInfo) (z : Value) (bytes : Nat) (ht : P.underlying t = some (.slice e)) (hi : P.info? e = some i) (hz : i.zero = some z) (hsize : i.size = 1) (hby : i.bytes = bytes) (hzs : z.cells.size = 1)
    (ok ok' : Nat → Prop) (A B : Option Addr) (n m c : Nat) (olds news : List Value) (hlo : olds.length = n) (hln : news.length = m) (hn : 0 < n) (hm : 0 < m) (hso : SeesP w ok A olds) (hsn : SeesP w ok' B news)
    (h63 : n + m ≤ maxLen) (hbytes : (n + m) * bytes ≤ 140737488355328) :
    ∃ v' w', (Builtin.append_ #[t, t] ty #[.slice A n n, .slice B m c]).run P w = .ok v' w' ∧ w'.ownsRow w.heap.size e 1 v' (n + m) (olds ++ news) ∧ Q w w' := by
  have add : ∀ (b o' j : Nat), (⟨b, o', none⟩ : Addr).add j = ⟨b, o' + j, none⟩ := fun b o' j => by
    unfold Addr.add
    split
    · rename_i h; subst h; rfl
    · rfl
  obtain ⟨b, o', rfl, _, hc⟩ := hso (by intro h; rw [h] at hlo; simp at hlo; omega)
  obtain ⟨b2, o2, rfl, _, hc2⟩ := hsn (by intro h; rw [h] at hln; simp at hln; omega)
  have hr := run_append_grow (P := P) w t ty e i z ht hi hz ⟨b, o', none⟩ n n olds (by rw [hsize]; omega) (fun j u hu => by rw [add]; exact hc j u hu) ⟨b2, o2, none⟩ m c news (by rw [hsize]; omega) (fun j u hu => by rw [add]; exact hc2 j u hu) (by omega) (by simp only [maxLen] at h63; omega) (by rw [hby]; exact growslice_fits (by omega) hbytes)
  have hge := grownCap_ge w (n + m) n e
  refine ⟨_, _, hr, ⟨by simp [hlo, hln], .inr ⟨w.heap.size, _, _, rfl, Nat.le_refl _, heap_alloc_new w.drew _, hge, grownCap_le_maxLen w (n + m) n e h63, ?_, ?_⟩⟩, (Q.refl w).drew.alloc _⟩
  · simp only [Array.size_append, List.size_toArray, size_zeroCells, hzs, hlo, hln]
    omega
  · simp only [Array.toList_append]
    rw [show (n + m) * 1 = (olds ++ news).length by simp [hlo, hln]]
    exact List.take_left


theorem sees_name {w : World} {g : Nat} {t : TypeId} {h m n : List Nat} (hr : w.rowIs g t 96 (ringF h m n)) (hn : n.length = 32) : SeesP w (· < w.heap.size) (some ⟨g, 64, none⟩) (n.map B8) := fun _ => by
  refine ⟨g, 64, rfl, hr.lt, fun j u hu => ?_⟩
  have hj : j < 32 := by have := (List.getElem?_eq_some_iff.1 hu).1; rw [List.length_map] at this; omega
  rw [(ring_cells hr).2.2 j hj]
  rw [List.getElem?_map, Option.map_eq_some_iff] at hu
  obtain ⟨x, hx, rfl⟩ := hu
  unfold arrF
  rw [List.getD_eq_getElem?_getD, hx]; rfl
theorem zeroI (w : World) : (zeroValue 58).run Tryd.prog w = .ok (.agg zer32) w := by kernel_rfl
theorem infoI : (Tryd.prog.info? 58).map (·.size) = some 32 := by kernel_rfl
theorem run_append_head (op : Oper) (ρ : Operand → Value) (x : Nat) (R : List Value) (m c2 : Nat) (A2 : Option Addr) (s y : Operand) (w : World) (ho : op.op = .call { callee := .builtin .append, args := #[s, y], argTypes := #[31, 31] })
    (A1 : Option Addr) (g : Nat) (hs : ρ s = .slice A1 1 1) (h1 : SeesP w (· < w.heap.size) A1 [.slice (some ⟨g, 0, none⟩) 1 1]) (h2 : SeesP w (· < w.heap.size) (some ⟨g, 0, none⟩) [B8 x])
    (hy : ρ y = .slice A2 m c2) (hR : SeesP w (· < w.heap.size) A2 R) (hl : R.length = m) (hm0 : 0 < m) (hm : m ≤ 1000000) :
    ∃ v w', (execOp ρ op).run Tryd.prog w = .ok (.value v) w' ∧ Q w w' ∧ HeadRow x R (1 + m) v w' := by
  obtain ⟨ir, hir, hzr0, hzr1, hzr2⟩ := info_parts infoRow8
  obtain ⟨v', w', hr, hown, hq⟩ := run_append_full (P := Tryd.prog) w 31 op.type 22 ir _ 24 Tryd.underlying31 hir hzr0 hzr1 hzr2 rfl _ _ A1 A2 1 m c2 [.slice (some ⟨g, 0, none⟩) 1 1] R rfl hl (by omega) hm0 h1 hR (by unfold maxLen; omega) (by omega)
  obtain ⟨A3, c3, rfl⟩ := own_form hown
  refine ⟨_, w', ?_, hq, A3, c3, g, rfl, (sees_own hown).more (fun b hb => hb.2), h2.on hq, own_nil hown⟩
  unfold execOp
  simp only [ho, resolve, invoke, builtin, Sem.run_bind, Sem.run_pure, Result.andThen_ok, List.map_toArray, List.map_cons, List.map_nil, hs, hy, hr]

theorem does_append_head {op : Oper} {a : Act} {x : Nat} {R : List Value} {m c2 : Nat} {A2 : Option Addr} {w : World} (s y : Operand) (ho : op.op = .call { callee := .builtin .append, args := #[s, y], argTypes := #[31, 31] })
    (A1 : Option Addr) (g : Nat) (hs : a.eval s = .slice A1 1 1) (h1 : SeesP w (· < w.heap.size) A1 [.slice (some ⟨g, 0, none⟩) 1 1]) (h2 : SeesP w (· < w.heap.size) (some ⟨g, 0, none⟩) [B8 x])
    (hy : a.eval y = .slice A2 m c2) (hR : SeesP w (· < w.heap.size) A2 R) (hl : R.length = m) (hm0 : 0 < m) (hm : m ≤ 1000000) : OpDoes Tryd.prog op a w fun v w' => Below w.heap.size w w' ∧ HeadRow x R (1 + m) v w' := by
  obtain ⟨v, w', h3, h4, h5⟩ := run_append_head op a.eval x R m c2 A2 s y w ho A1 g hs h1 h2 hy hR hl hm0 hm
  exact OpDoes.run h3 ⟨h4, h5⟩

set_option maxHeartbeats 8000000 in
set_option maxRecDepth 100000 in
theorem id_ok (h m N : List Nat) (x : Nat) (A2 : Option Addr) (n2 c2 : Nat) (parts : List (Value × List Nat)) (w : World) (hG : Glob w) (hx : x ≤ 255) (hN : N.length = 32) (hbN : ∀ x ∈ N, x ≤ 255) (hn : parts.length = n2) (hs : SeesP w (· < w.heap.size) A2 (parts.map (·.1))) (hp : PartsB w (· < w.heap.size) parts) (h0 : 0 < n2) (hlen : (partsL parts).length ≤ 1000000) (hn64 : n2 ≤ 900) :
    Calls Tryd.prog 32 #[.agg (ringC h m N), .int .u8 (x : Int), .slice A2 n2 c2] w fun e w' => e = .returned (.agg (arrO (hmac N (x :: partsL parts)))) ∧ Hid (Q w w') := by
  obtain ⟨i8, hi8, hz80, hz81, hz82⟩ := info_parts info8
  have HG := Lib.hid hG
  have HN := Lib.hid hN
  have HBN := Lib.hid hbN
  have HPN := Lib.hid hn
  have HS := Lib.hid hs
  have HP := Lib.hid hp
  have HLEN := Lib.hid hlen
  clear hG hN hbN hn hs hp hlen
  go_enter Tryd.func32, Tryd.ntmps32
  go_wp2_with (first
    | (refine gate 3 rfl ?_; refine wpList_box_row rfl 46 (.tmp 0) rfl _ rfl 96 _ (ring_agg h m N) ?_; intro w1 hr1 hx1; have H1 := Lib.hid (And.intro hr1 (hx1.q (Q.refl _))); clear hr1 hx1)
    | (refine gate 6 rfl ?_; go_loud (refine wpList_alloc_row rfl 58 rfl _ (zeroI _) 32 _ rfl zer32_get ?_; intro w2 hr2 hx2; have H2 := Lib.hid (And.intro hr2 (hx2.q (Q.refl _))); clear hr2 hx2)))
  have HR3 : Hid (w2.rowIs w.heap.size 46 96 (ringF h m N)) := row_q H2.out.2 H1.out.1
  have HQ2 : Hid (Q w w2) := H1.out.2.trans' H2.out.2
  have k64 := run_arr_all (P := Tryd.prog) 28 5 32 Tryd.underlying28 i8 hi8 hz81 w.heap.size 64
  refine wp_region_facts_tail (by kernel_rfl) (by kernel_rfl) (by kernel_rfl) _ rfl (factsOf [.is (.pointer (some ⟨w.heap.size, 64, none⟩)), .is (.slice (some ⟨w.heap.size, 64, none⟩) 32 32), .is (.int .u8 (x : Int)), .row [B8 x], .that (fun u w => ∃ A g, u = .slice A 1 1 ∧ SeesP w (· < w.heap.size) A [.slice (some ⟨g, 0, none⟩) 1 1] ∧ SeesP w (· < w.heap.size) (some ⟨g, 0, none⟩) [B8 x]) (fun _ _ _ h hq => by obtain ⟨A, g, h1, h2, h3⟩ := h; exact ⟨A, g, h1, h2.on hq, h3.on hq⟩), .is (.slice A2 n2 c2), .that (HeadRow x (parts.map (·.1)) (1 + n2)) (fun v w w' h hq => h.stays _ _ _ _ _ _ hq), .is (.agg (arrO (hmac N (x :: partsL parts))))]) (factsOf_stays _) ?_ ?_
  · refine ⟨?_, ?_, ?_, ?_, ?_, ?_, ?_, ?_, trivial⟩
    · intro ax wx hq hfr hd
      have f3 : ax.tmps.getD 3 undef = .pointer (some ⟨w.heap.size, 0, none⟩) := (hfr 3 (noDst_spec (by kernel_rfl))).trans rfl
      have e3 := (getD_form _ _).symm.trans f3
      exact .inl ⟨wanted_free rfl, OpDoes.run (v := .pointer (some ⟨w.heap.size, 64, none⟩)) (w' := wx) (by unfold execOp; simp [go_sem, Act.eval, e3]) ⟨Below.refl _ _, rfl⟩⟩
    · intro ax wx hq hfr hd
      have f7 : ax.tmps.getD 7 undef = .pointer (some ⟨w.heap.size, 64, none⟩) := hd 0 (by kernel_rfl) _ _ rfl rfl
      have e7 := (getD_form _ _).symm.trans f7
      exact .inl ⟨wanted_free rfl, OpDoes.run (v := .slice (some ⟨w.heap.size, 64, none⟩) 32 32) (w' := wx) (by unfold execOp; simp [go_sem, Act.eval, e7, k64]) ⟨Below.refl _ _, rfl⟩⟩
    · intro ax wx hq hfr hd
      have f1 : ax.tmps.getD 1 undef = .int .u8 (x : Int) := (hfr 1 (noDst_spec (by kernel_rfl))).trans rfl
      have e1 := (getD_form _ _).symm.trans f1
      exact .inl ⟨wanted_free rfl, OpDoes.run (v := .int .u8 (x : Int)) (w' := wx) (by unfold execOp; simp only [Act.eval, f1, Sem.run_pure]) ⟨Below.refl _ _, rfl⟩⟩
    · intro ax wx hq hfr hd
      have f9 : ax.tmps.getD 9 undef = .int .u8 (x : Int) := hd 2 (by kernel_rfl) _ _ rfl rfl
      have e9 := (getD_form _ _).symm.trans f9
      exact .inl ⟨wanted_free rfl, OpDoes.run (v := .slice (some ⟨wx.heap.size, 0, none⟩) 1 1) (w' := wx.alloc (.cells #[.int .u8 (x : Int)] 5)) (by unfold execOp; simp [go_sem, Act.eval, e9]) ⟨(Q.refl wx).alloc _, ⟨_, rfl, new1 wx [B8 x] _⟩⟩⟩
    · intro ax wx hq hfr hd
      obtain ⟨g10, f10, r10⟩ : ∃ g, ax.tmps.getD 10 undef = .slice (some ⟨g, 0, none⟩) 1 1 ∧ SeesP wx (· < wx.heap.size) (some ⟨g, 0, none⟩) [B8 x] := hd 3 (by kernel_rfl) _ _ rfl rfl
      have e10 := (getD_form _ _).symm.trans f10
      exact .inl ⟨wanted_free rfl, OpDoes.run (v := .slice (some ⟨wx.heap.size, 0, none⟩) 1 1) (w' := wx.alloc (.cells #[.slice (some ⟨g10, 0, none⟩) 1 1] 22)) (by unfold execOp; simp [go_sem, Act.eval, e10]) ⟨(Q.refl wx).alloc _, ⟨_, g10, rfl, new1 wx [.slice (some ⟨g10, 0, none⟩) 1 1] _, r10.on ((Q.refl wx).alloc _)⟩⟩⟩
    · intro ax wx hq hfr hd
      have f2 : ax.tmps.getD 2 undef = .slice A2 n2 c2 := (hfr 2 (noDst_spec (by kernel_rfl))).trans rfl
      have e2 := (getD_form _ _).symm.trans f2
      exact .inl ⟨wanted_free rfl, OpDoes.run (v := .slice A2 n2 c2) (w' := wx) (by unfold execOp; simp only [Act.eval, f2, Sem.run_pure]) ⟨Below.refl _ _, rfl⟩⟩
    · intro ax wx hq hfr hd
      have h11 : (fun u w => ∃ A g, u = .slice A 1 1 ∧ SeesP w (· < w.heap.size) A [.slice (some ⟨g, 0, none⟩) 1 1] ∧ SeesP w (· < w.heap.size) (some ⟨g, 0, none⟩) [B8 x]) (ax.tmps.getD 11 undef) wx := hd 4 (by kernel_rfl) _ _ rfl rfl
      have f12 : ax.tmps.getD 12 undef = .slice A2 n2 c2 := hd 5 (by kernel_rfl) _ _ rfl rfl
      have e12 := (getD_form _ _).symm.trans f12
      obtain ⟨A1, g1, q1, q2, q3⟩ := h11
      exact .inl ⟨wanted_free rfl, does_append_head (.tmp 11) (.tmp 12) rfl A1 g1 q1 q2 q3 f12 (HS.out.on (HQ2.out.trans' hq)) (by rw [List.length_map]; exact HPN.out) h0 (by omega)⟩
    · intro ax wx hq hfr hd
      have f8 : ax.tmps.getD 8 undef = .slice (some ⟨w.heap.size, 64, none⟩) 32 32 := hd 1 (by kernel_rfl) _ _ rfl rfl
      have e8 := (getD_form _ _).symm.trans f8
      have h13 : (HeadRow x (parts.map (·.1)) (1 + n2)) (ax.tmps.getD 13 undef) wx := hd 6 (by kernel_rfl) _ _ rfl rfl
      obtain ⟨A1, c1, g1, q1, q2, q3, q4⟩ := h13
      have q0 : ax.tmps[13]?.getD undef = .slice A1 (1 + n2) c1 := (getD_form _ _).symm.trans q1
      have hqx := HQ2.out.trans' hq
      have hk := keyed_any (some ⟨w.heap.size, 64, none⟩) 32 32 N A1 (1 + n2) c1 ([(Value.slice (some ⟨g1, 0, none⟩) 1 1, [x])] ++ parts) wx (HG.out.q hqx) HN.out (sees_name (row_q hq HR3.out) HN.out) HBN.out (fun h => by cases h) (by rw [List.map_append]; exact q2) q4 ((part_all (L := [x]) q3 rfl (fun y hy => by rw [List.mem_singleton] at hy; rw [hy]; exact hx)).append (HP.out.on hqx)) (by rw [List.length_append, HPN.out]; rfl) (by omega) (by have := HLEN.out; simp only [partsL, List.flatMap_append, List.flatMap_cons, List.flatMap_nil, List.length_append, List.length_cons, List.length_nil] at this ⊢; omega) (by omega)
      exact .inl ⟨wanted_free rfl, OpDoes.call (f := 21) (args := #[.slice (some ⟨w.heap.size, 64, none⟩) 32 32, .slice A1 (1 + n2) c1]) (w' := wx) (by unfold execOp; simp [go_sem, Act.eval, e8, q0]) (hk.mono fun e w2 h => ⟨_, h.1, h.2.out, rfl⟩)⟩
  · intro ax wx inv K hK
    have f6 : ax.tmps.getD 6 undef = .pointer (some ⟨w1.heap.size, 0, none⟩) := (inv.frame 6 (noDst_spec (by kernel_rfl))).trans rfl
    have f14 : ax.tmps.getD 14 undef = .agg (arrO (hmac N (x :: partsL parts))) := inv.fact 7 _ _ (by decide) rfl rfl
    have f6 : ax.tmps.getD 6 undef = .pointer (some ⟨w1.heap.size, 0, none⟩) := (inv.frame 6 (noDst_spec (by kernel_rfl))).trans rfl
    refine ⟨wanted_free rfl, wp_store_all 58 (.tmp 6) (.tmp 14) rfl w1.heap.size f6 _ f14 32 infoI _ (arrO_agg _) (fun i _ => rfl) 58 _ (row_q inv.q H2.out.1) fun w3 hr3 hp3 => hK _ _ ?_⟩
    have hdf : ax.defers = [] := inv.defers
    have HQX : Hid (Q w2 wx) := inv.q
    have H3 := Lib.hid (And.intro hr3 hp3)
    clear inv hr3 hp3 hK
    go_wp2_with fail
    refine ret_cell rfl w1.heap.size f6 _ Tryd.underlying58 rfl 32 infoI _ (row_cells H3.out.1) hdf (fun v hv => ⟨by rw [arrO_eq hv], ?_⟩)
    exact H3.out.2.q (HQ2.out.trans' HQX.out) H1.out.2.size
end Go.Proofs.YtcdbffgmgfblkaaDoor
