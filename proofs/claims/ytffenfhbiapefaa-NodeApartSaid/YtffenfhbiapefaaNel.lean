/- The walk through NodeEncodes. -/
import Derived.Test.YtffenfhbiapefaaDoc
import Derived.Test.YtffenfhbiapefaaNsz
namespace Go.Proofs.Ytffenfhbiapefaa
set_option linter.unusedVariables false
set_option linter.unusedSimpArgs false
open Go.RowKit

/-- What the calls of the law leave, told once: the few nodes of what came in. -/
theorem fewL_fits {zs : List NdIn} : ∀ z ∈ fewL zs, z.pn ≤ 300 := fun z hz => by
  unfold fewL at hz
  have h := (List.mem_filter.1 hz).2
  unfold fewP at h
  simp only [Bool.and_eq_true, decide_eq_true_eq] at h
  exact h.1
theorem fewL_mem {zs : List NdIn} : ∀ z ∈ fewL zs, z ∈ zs := fun z hz => List.mem_of_mem_take (List.mem_filter.1 hz).1
theorem fewL_len {zs : List NdIn} : (fewL zs).length ≤ 60 := by
  unfold fewL
  exact Nat.le_trans (List.length_filter_le _ _) (List.length_take_le _ _)
theorem map_n {outs zs : List NdIn} (h : outs.map (fun z => (z.n, z.pn)) = zs.map fun z => (z.n, z.pn)) : outs.map (·.n) = zs.map (·.n) := by
  have h2 := congrArg (List.map Prod.fst) h
  simpa [List.map_map, Function.comp_def] using h2
theorem map_pn {outs zs : List NdIn} (h : outs.map (fun z => (z.n, z.pn)) = zs.map fun z => (z.n, z.pn)) (hp : ∀ z ∈ zs, z.pn ≤ 300) : ∀ z ∈ outs, z.pn ≤ 300 := fun z hz => by
  have h1 : (z.n, z.pn) ∈ zs.map fun z => (z.n, z.pn) := by rw [← h]; exact List.mem_map_of_mem hz
  obtain ⟨y, hy, e⟩ := List.mem_map.1 h1
  injection e with _ e2
  rw [← e2]; exact hp y hy
set_option maxHeartbeats 16000000 in
set_option maxRecDepth 100000 in
theorem nodeEncodes_walk (A0 : Option Addr) (nn nc : Nat) (zs : List NdIn) (w : World) (hz : zs.length = nn) (hn : nn ≤ 9223372036854775807) (h : NodesAt w A0 zs) :
    Calls Try.prog 4 #[.slice A0 nn nc] w fun e w' => e = .returned (.bool true) ∧ Q w w' := by
  have HFW : Hid (Calls Try.prog 16 #[.slice A0 nn nc] w fun e w' => ∃ A c, e = .returned (.slice A (fewL zs).length c) ∧ Hid (NodesAt w' A (fewL zs) ∧ Q w w')) := Lib.hid ((few_ok A0 nn nc zs w hz hn h).mono fun e w' ⟨v, he, hr⟩ => by
    obtain ⟨A, c, rfl, hN⟩ := hr.out.nodesAt (fun z hz' => h.parts z (fewL_mem z hz')) (fun z hz' => h.fit z (fewL_mem z hz'))
    exact ⟨A, c, he, Lib.hid ⟨hN, hr.out.q⟩⟩)
  have HP : Hid (∀ z ∈ fewL zs, z.pn ≤ 300) := Lib.hid fewL_fits
  have HL : Hid ((fewL zs).length ≤ 60) := Lib.hid fewL_len
  clear hz hn h
  generalize fewL zs = ys at *
  obtain ⟨m, hm⟩ : ∃ m, m = ys.length := ⟨_, rfl⟩
  rw [← hm] at HFW HL
  have HM := Lib.hid hm.symm
  clear hm
  have hml := HL.out
  go_enter Try.func4, Try.ntmps4
  go_wp2_with (first
    | (go_at_call 16; go_loud ((with_reducible refine (HFW.out).mono ?_); rintro e1 w1 ⟨A1, c1, rfl, H1⟩; have HT := Lib.hid (to_ok A1 m c1 ys w1 HM.out (by omega) H1.out.1 (fun z hz => by have := HP.out z hz; omega))))
    | (go_at_call 10; go_loud ((with_reducible refine (HT.out).mono ?_); rintro e2 w2 ⟨v2, outs, rfl, H2⟩; obtain ⟨A2, c2, rfl, HN2⟩ := H2.out.1.nodesAt (fits_same H2.out.2 H1.out.1.fit); have hol : outs.length = m := (Made.len H2.out.2).trans HM.out; rw [hol]; have HN1 := Lib.hid (H1.out.1.q H2.out.1.q); have HNO := Lib.hid HN2; have HD := Lib.hid (docEncode_ok A1 m c1 ys w2 HM.out (by omega) HN1.out (fun z hz => by have := HP.out z hz; omega)); have HQ2 := Lib.hid (H1.out.2.step H2.out.1.q); have HOP := Lib.hid (map_pn H2.out.2 HP.out); have HON := Lib.hid (map_n H2.out.2); have HOL := Lib.hid hol; clear HN2 hol))
    | (go_at_call 17; go_loud ((with_reducible refine (HD.out).mono ?_); rintro e3 w3 ⟨rfl, hq3⟩; have HQ3 := Lib.hid hq3.out; have HE := Lib.hid (encode_ok A2 m c2 outs w3 HOL.out (by omega) (HNO.out.q hq3.out) (fun z hz => by have := HOP.out z hz; omega)); rw [HON.out] at HE; clear hq3))
    | (go_at_call 18; go_loud ((with_reducible refine (HE.out).mono ?_); rintro e4 w4 ⟨A4, c4, n4, rfl, H4⟩; have HQ4 := Lib.hid (HQ3.out.step H4.out.2.2.1)))
    | (go_at_call 11; go_loud ((with_reducible refine (nodes_ok _).mono ?_); rintro e5 w5 ⟨rfl, hq5⟩; have hk := run_convert_sees (P := Try.prog) w5 40 9 5 Try.underlying40 Try.underlying5 Try.underlying9 _ A4 n4 c4 _ H4.out.1 (sees_own (own_q H4.out.2.1 hq5.out)); have HQ5 := Lib.hid (HQ4.out.step hq5.out); have HF5 := Lib.hid (from_ok A2 m c2 outs w5 HOL.out (by omega) (HNO.out.q HQ5.out)); clear hq5))
    | (go_at_call 20; go_loud ((with_reducible refine (HF5.out).mono ?_); rintro e6 w6 ⟨v6, rfl, H6⟩; obtain ⟨A6, c6, rfl, hN6⟩ := H6.out.nodesAt (HNO.out.q HQ5.out).parts (HNO.out.q HQ5.out).fit; rw [HOL.out]; have HQ6 := Lib.hid (HQ5.out.step H6.out.q); have HS6 := Lib.hid (refSame_ok A6 A1 m c6 c1 outs ys w6 HOL.out HON.out (by omega) hN6 (HN1.out.q HQ6.out)); clear hN6))
    | (go_at_call 19; go_loud ((with_reducible refine (HS6.out).mono ?_); rintro e7 w7 ⟨rfl, H7⟩)))
  go_ret
  exact ⟨rfl, HQ2.out.step (HQ6.out.step H7.out)⟩
theorem nodes_of_row {A : Option Addr} {n c : Nat} {zs : List NdIn} {w : World} (h : RowOfR w 39 (NdR w) A n c zs) : NodesAt w A ((zs.take n).map NdIn.cut) ∧ ((zs.take n).map NdIn.cut).length = n := by
  have hle := h.le
  refine ⟨⟨?_, fun z hz => ?_, fun z hz => ?_⟩, by rw [List.length_map, List.length_take, h.len]; omega⟩
  · have hs : SeesP w (· < w.heap.size) A (zs.flatMap fun z => ndL z.n z.A z.pn z.pc) := fun hn => h.sees (fun z => ndL z.n z.A z.pn z.pc) (fun cs a h => h.1) hn
    have e : zs.flatMap (fun z => ndL z.n z.A z.pn z.pc) = ndsL ((zs.take n).map NdIn.cut) ++ (zs.drop n).flatMap fun z => ndL z.n z.A z.pn z.pc := by
      conv => lhs; rw [← List.take_append_drop n zs, List.flatMap_append]
      unfold ndsL
      rw [List.flatMap_map]
      rfl
    intro hn
    rw [e] at hs
    obtain ⟨b, o, hA, hb', hc⟩ := hs (by intro h0; exact hn (List.append_eq_nil_iff.1 h0).1)
    refine ⟨b, o, hA, hb', fun j u hu => hc j u ?_⟩
    rw [List.getElem?_append_left (List.getElem?_eq_some_iff.1 hu).1]
    exact hu
  · obtain ⟨y, hy, rfl⟩ := List.mem_map.1 hz
    obtain ⟨cs, _, hk⟩ := h.all y (List.mem_of_mem_take hy)
    exact hk.fits.2
  · obtain ⟨y, hy, rfl⟩ := List.mem_map.1 hz
    obtain ⟨cs, _, hk⟩ := h.all y (List.mem_of_mem_take hy)
    exact hk.fits.1
theorem nodeEncodes_true (A : Option Addr) (n c : Nat) (zs : List NdIn) (w : World) (h : RowOfR w 39 (NdR w) A n c zs) :
    Calls Try.prog 4 #[.slice A n c] w fun e w' => e = .returned (.bool true) ∧ Below w.heap.size w w' := by
  obtain ⟨h1, h2⟩ := nodes_of_row h
  exact nodeEncodes_walk A n c _ w h2 (by have := h.le; have := h.max; unfold maxLen at this; omega) h1
end Go.Proofs.Ytffenfhbiapefaa
