/- The walk through ids: names of pieces are put into an Out. -/
import Derived.Test.YtffenfhbiapefaaNrw
import Derived.Test.YtffenfhbiapefaaGlyS
import Derived.Deep.DeepCutAuto
namespace Go.Proofs.Ytffenfhbiapefaa
set_option linter.unusedVariables false
set_option linter.unusedSimpArgs false
open Go.RowKit

section
variable {P : Program} (t e : TypeId) (n : Nat) (ht : P.underlying t = some (.array n e)) (i : TypeInfo) (hi : P.info? e = some i) (hs : i.size = 1) (g o : Nat)
include ht hi hs
theorem run_arr_all (w : World) : (Instr.sliceAt t (.pointer (some ⟨g, o, none⟩)) none none none).run P w = .ok (.slice (some ⟨g, o, none⟩) n n) w := by
  have ha : P.arrayLen t = n := by simp [Program.arrayLen, ht]
  have he : P.elem t = e := by simp [Program.elem, ht]
  rw [run_sliceAt_array_all w t _ (by rw [ha, he]; exact ht), he, size_run hi w, hs, ha]
  simp only [Result.andThen, slicedAt]
  by_cases h : n = 0
  · rw [if_pos h]; simp
  · rw [if_neg h]; simp [Addr.add]
end
theorem sees_arr {w : World} {g n : Nat} {t : TypeId} {L : List Nat} {ok : Nat → Prop} (hr : w.rowIs g t n (arrF L)) (hl : L.length = n) (hok : ok g) : SeesP w ok (some ⟨g, 0, none⟩) (L.map B8) := fun _ => by
  refine ⟨g, 0, rfl, hok, fun j u hu => ?_⟩
  have hj : j < n := by have := (List.getElem?_eq_some_iff.1 hu).1; rw [List.length_map] at this; omega
  rw [Nat.zero_add, hr.cell hj]
  rw [List.getElem?_map, Option.map_eq_some_iff] at hu
  obtain ⟨x, hx, rfl⟩ := hu
  unfold arrF
  rw [List.getD_eq_getElem?_getD, hx]; rfl
theorem rawFold_len (ids : List (List Nat)) (h : ∀ i ∈ ids, i.length = 32) : ∀ s : Nat × List Nat, (ids.foldl rawStep s).2.length ≤ s.2.length + 32 * ids.length := by
  induction ids with
  | nil => intro s; simp
  | cons i ids ih =>
    intro s
    have h1 := ih (fun j hj => h j (List.mem_cons_of_mem _ hj)) (rawStep s i)
    have h2 : (rawStep s i).2.length ≤ s.2.length + 32 := by
      unfold rawStep
      split
      · rw [List.length_append, h i (by simp)]; exact Nat.le_refl _
      · omega
    simp only [List.foldl_cons, List.length_cons]
    omega
theorem raw_id (base g e : Nat) (L : List Nat) (v : Value) (w2 : World) (h : OutHas w2 base g e L v) (b : Nat) (hbn : ¬ OutS g v b) (id : List Nat) (hr : w2.rowIs b 24 32 (arrF id)) (hi : id.length = 32) (hx : ∀ x ∈ id, x ≤ 255) (t : TypeId) (hL : L.length ≤ 49999999900) :
    Calls Try.prog 63 #[.pointer (some ⟨g, 0, none⟩), .slice (some ⟨w2.heap.size, 0, none⟩) 1 1] (w2.alloc (.cells #[.slice (some ⟨b, 0, none⟩) 32 32] t)) fun e_ w' => ∃ v', e_ = .returned (.pointer (some ⟨g, 0, none⟩)) ∧ Hid (OutSt w2 v w' base g (rawStep (e, L) id).1 (rawStep (e, L) id).2 v') := by
  have hq : Q w2 (w2.alloc (.cells #[.slice (some ⟨b, 0, none⟩) 32 32] t)) := (Q.refl w2).alloc _
  have hb := hr.lt
  have hh := h.q hq
  have h1 := raws_ok base g e 1 (some ⟨w2.heap.size, 0, none⟩) [(.slice (some ⟨b, 0, none⟩) 32 32, id)] L v (fun k => k = b ∨ k = w2.heap.size) _ hh ((SeesP.newAt w2 [.slice (some ⟨b, 0, none⟩) 32 32] t).more fun k hk => .inr hk)
    (fun z hz => by
      obtain rfl := List.mem_singleton.1 hz
      refine ⟨some ⟨b, 0, none⟩, 32, by rw [hi], sees_arr (row_q hq hr) hi (.inl rfl), hx, fun h => by cases h⟩)
    (fun k hk => by
      rcases hk with rfl | rfl
      · exact ⟨by rw [alloc_size]; omega, hbn⟩
      · exact ⟨by rw [alloc_size]; omega, fun hO => by have := h.lt _ hO; omega⟩) (by simp [hi]; omega) (by simp)
  refine h1.mono fun e_ w' ⟨v', he, hst⟩ => ⟨v', he, ?_⟩
  exact OutSt.trans ((OutSt.refl h).q hq) hst
/-- The Out after a call that hands nothing back. -/
def OutPut (w : World) (base g : Nat) (s : Nat × List Nat) (v : Value) (e_ : Ending) (w' : World) : Prop := ∃ v', e_ = .returned (.tuple #[]) ∧ Hid (OutSt w v w' base g s.1 s.2 v')
set_option maxHeartbeats 16000000 in
set_option maxRecDepth 100000 in
theorem ids_ok (base g e : Nat) (L : List Nat) (v : Value) (A : Option Addr) (pn pc : Nat) (ids : List (List Nat)) (ok : Nat → Prop) (w : World) (h : OutHas w base g e L v) (hs : SeesP w ok A (ids.flatMap gL)) (hok : ∀ k, ok k → k < w.heap.size ∧ ¬ OutS g v k)
    (hl : ids.length = pn) (hid : ∀ i ∈ ids, i.length = 32 ∧ ∀ x ∈ i, x ≤ 255) (hL : L.length + 32 * pn ≤ 40000000000) (hpn : pn ≤ 1000000000) :
    Calls Try.prog 51 #[.pointer (some ⟨g, 0, none⟩), .slice A pn pc] w (OutPut w base g (ids.foldl rawStep (e, L)) v) := by
  obtain ⟨i8, hi8, hz80, hz81, hz82⟩ := info_parts info8
  have HH := Lib.hid h
  have HS := Lib.hid hs
  have HOK := Lib.hid hok
  have HL := Lib.hid hl
  have HID := Lib.hid hid
  have HFL := Lib.hid (fun s => rawFold_len ids (fun i hi => (hid i hi).1) s)
  clear h hs hok hl hid
  go_enter Try.func51, Try.ntmps51
  go_wp2_with fail
  go_loopw [8] (fun i wr => ∃ k : Nat, k ≤ pn ∧ i = .int .i64 k ∧ Hid (∃ v', OutSt w v wr base g ((ids.take k).foldl rawStep (e, L)).1 ((ids.take k).foldl rawStep (e, L)).2 v')) (fun i _ => pn - (intOf i).toNat)
  case atStart => exact ⟨0, by omega, rfl, v, by rw [List.take_zero]; exact OutSt.refl HH.out⟩
  case round =>
    obtain ⟨k, hk, rfl, HM⟩ := hrel
    obtain ⟨wq, hwq⟩ : ∃ w, w = wr := ⟨_, rfl⟩
    subst hwq
    by_cases hlt : k < pn
    · obtain ⟨v1, hst⟩ := HM.out
      have hkz : k < ids.length := by rw [HL.out]; exact hlt
      have hsw := hst.only.sees HS.out HOK.out
      obtain ⟨b, o, e1, hb, hat⟩ := hsw (by intro h0; have := flat_len ids (f := gL) (fun a _ => gL_len a); rw [h0] at this; simp at this; omega)
      have hcell := ids_cell (ok := ok) hat k hkz
      obtain ⟨hi1, hi2⟩ := HID.out ids[k] (List.getElem_mem hkz)
      have HTK : Hid ((ids.take (k + 1)).foldl rawStep (e, L) = rawStep ((ids.take k).foldl rawStep (e, L)) ids[k]) := Lib.hid (by
        rw [List.take_succ_eq_append_getElem hkz, List.foldl_append]; rfl)
      have HLN : Hid (((ids.take k).foldl rawStep (e, L)).2.length ≤ L.length + 32 * k) := Lib.hid (by
        have := rawFold_len (ids.take k) (fun i hi => (HID.out i (List.mem_of_mem_take hi)).1) (e, L)
        rw [List.length_take, Nat.min_eq_left (by omega)] at this
        exact this)
      generalize ids[k] = id at *
      obtain ⟨⟨e2, L2⟩, hs2⟩ : ∃ s2, s2 = (ids.take k).foldl rawStep (e, L) := ⟨_, rfl⟩
      rw [← hs2] at hst HTK HLN
      have HST := Lib.hid hst
      have HC := Lib.hid hcell
      have HI1 := Lib.hid hi1
      have HI2 := Lib.hid hi2
      clear hs2 hst hcell hi1 hi2 hat hsw hb HM
      subst e1
      have k32 := run_arr_all (P := Try.prog) 24 5 32 Try.underlying24 i8 hi8 hz81 wq.heap.size 0
      go_wp2_with (first
        | ((with_reducible refine gate 11 rfl ?_); go_loud (refine wpList_val rfl (load_id (o + k * 32) (.tmp 10) rfl rfl HC.out) ?_))
        | ((with_reducible refine gate 5 rfl ?_); go_loud (refine wpList_alloc_row rfl 24 rfl _ (zeroI _) 32 _ (arrO_size _) (fun i hi => arrO_get _ hi) ?_; intro w1 hr1 hx1; have H1 := Lib.hid (And.intro hr1 (hx1.q (Q.refl _))); clear hr1 hx1))
        | ((with_reducible refine gate0 rfl ?_); go_loud (refine wpList_store_all rfl 24 (.tmp 5) (.tmp 11) rfl wq.heap.size rfl _ rfl 32 sizeI _ (arrO_agg id) (fun i _ => rfl) 24 _ H1.out.1 ?_; intro w2 hr2 hp2; have HB := Lib.hid hr2; have HQ2 : Hid (Q wq w2) := Lib.hid (hp2.q H1.out.2 (Nat.le_refl _)); clear hr2 hp2)))
      have HST2 := Lib.hid (HST.out.q HQ2.out)
      have hbn : ¬ OutS g v1 wq.heap.size := fun hO => by have := HST.out.has.lt _ hO; omega
      have hL2 : L2.length ≤ 49999999900 := by have : L2.length ≤ L.length + 32 * k := HLN.out; omega
      have HRW := Lib.hid (fun t => raw_id base g e2 L2 v1 w2 HST2.out.has wq.heap.size hbn id HB.out HI1.out HI2.out t hL2)
      clear hbn hL2
      go_wp2_with (go_at_call 63; go_loud ((with_reducible refine (HRW.out _).mono ?_); rintro e5 w5 ⟨v5, rfl, H5⟩))
      go_roundw
      case rel => exact ⟨k + 1, by omega, by go_num, Lib.hid ⟨v5, by rw [HTK.out]; exact OutSt.trans HST2.out H5.out⟩⟩
      case measure => simp [intOf]; omega
    · obtain rfl : pn = k := by omega
      obtain ⟨v1, hst⟩ := HM.out
      rw [List.take_of_length_le (by rw [HL.out]; exact Nat.le_refl _)] at hst
      have HST := Lib.hid hst
      clear hst HM
      go_wp2_with fail
      refine bodyPost_end (results_none rfl _ _ _) rfl ⟨v1, rfl, HST.out⟩
end Go.Proofs.Ytffenfhbiapefaa
