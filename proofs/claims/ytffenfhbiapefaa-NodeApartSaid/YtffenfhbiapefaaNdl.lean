/- The walk through NodeDecodes. -/
import Derived.Test.YtffenfhbiapefaaDdc
import Derived.Test.YtffenfhbiapefaaDec
namespace Go.Proofs.Ytffenfhbiapefaa
set_option linter.unusedVariables false
set_option linter.unusedSimpArgs false
open Go.RowKit

/-- What was decoded, told with the count. -/
def DecAs (T : TypeId) (w : World) (ns : List Nd) (er : Nat) (k : Nat) (e_ : Ending) (w' : World) : Prop :=
  ∃ A c outs, e_ = .returned (.tuple #[.slice A k c, .int .i64 (er : Int)]) ∧ Hid (outs.length = k ∧ outs.map (·.n) = ns ∧ MadeR w.heap.size w' T (.slice A k c) outs ∧ NodesAt w' A outs ∧ Q w w' ∧ k ≤ c)
theorem DecOut.as_ {T : TypeId} {w w' : World} {ns : List Nd} {er : Nat} {e_ : Ending} (h : DecOut T w (ns, er) e_ w') (hw : ∀ n ∈ ns, WasRead n) : DecAs T w ns er ns.length e_ w' := by
  obtain ⟨A, c, outs, rfl, hm, h⟩ := h
  simp only at hm
  have hl : outs.length = ns.length := by rw [← hm, List.length_map]
  obtain ⟨A2, c2, hv, hN⟩ := h.out.1.nodesAt (fun z hz => hw z.n (by rw [← hm]; exact List.mem_map_of_mem hz))
  injection hv with h1 h2 h3
  subst h1 h3
  have hmd := h.out.1
  rw [hl] at hmd
  exact ⟨A, c, outs, by rw [hl], Lib.hid ⟨hl, hm, hmd, hN, h.out.2, (own_capS hmd.own).1⟩⟩
theorem ids_small {ns : List Nd} {L : List Nat} (h : encN ns = (L, 0)) (hw : ∀ n ∈ ns, WasRead n) : ∀ n ∈ ns, n.ids.length * 32 ≤ L.length := fun n hn => by
  have h1 := encNd_ids (hw n hn)
  have h2 := mem_flat_len hn
  have h3 := (encN_form h).2.2.2
  rw [h3, List.length_append]
  omega
set_option maxHeartbeats 16000000 in
set_option maxRecDepth 100000 in
theorem nodeDecodes_walk (A0 : Option Addr) (m0 c0 : Nat) (L : List Nat) (w : World) (hm : L.length = m0) (hs : SeesP w (· < w.heap.size) A0 (L.map B8)) (hby : ∀ x ∈ L, x ≤ 255) (hmc : m0 ≤ c0) (hc : c0 ≤ 9223372036854775807) (hAc : A0 = none → c0 = 0) :
    Calls Try.prog 7 #[.slice A0 m0 c0] w fun e w' => e = .returned (.bool true) ∧ Q w w' := by
  by_cases hbig : 5000 < m0
  · clear hm hs hby hAc
    go_enter Try.func7, Try.ntmps7
    go_wp2_with (first
      | (go_at_call 11; go_loud ((with_reducible refine (nodes_ok _).mono ?_); rintro e5 w5 ⟨rfl, hq5⟩; have HQ5 := Lib.hid hq5.out; clear hq5)))
    go_ret
    exact ⟨rfl, HQ5.out⟩
  · have HS := Lib.hid hs
    have hcv := run_convert_sees (P := Try.prog) w 40 9 5 Try.underlying40 Try.underlying5 Try.underlying9 _ A0 m0 c0 L hm hs
    have HDD0 := docDecode_ok L w hby (by omega)
    have HDP0 : ∀ wx, Q w wx → Calls Try.prog 25 #[.slice A0 m0 c0] wx (DecOut 33 wx (decN L)) := fun wx hq => decode_ok A0 c0 m0 L (· < wx.heap.size) wx hm (SeesP.on hs hq) (fun _ h => h) hby (by omega) hmc hc hAc
    rw [docDec_eq hby] at HDD0
    obtain ⟨ns, er, hd, hw, hen⟩ : ∃ ns er, decN L = (ns, er) ∧ (∀ n ∈ ns, WasRead n) ∧ (er = 2 ∨ (er = 0 ∧ encN ns = (L, 0))) := by
      rcases decN_sound hby with h | ⟨ns, h1, h2, h3, _⟩
      · exact ⟨[], 2, h, by simp, .inl rfl⟩
      · exact ⟨ns, 0, h1, fun n hn => (h3 n hn).2, .inr ⟨rfl, h2⟩⟩
    rw [hd] at HDD0
    have HDD := Lib.hid (HDD0.mono fun e w' h => h.as_ hw)
    have HDP : Hid (∀ wx, Q w wx → Calls Try.prog 25 #[.slice A0 m0 c0] wx (DecAs 33 wx ns er ns.length)) := Lib.hid fun wx hq => by
      have h1 := HDP0 wx hq
      rw [hd] at h1
      exact h1.mono fun e w' h => h.as_ hw
    have HNS : Hid (ns.length ≤ 2000) := Lib.hid (by
      rcases hen with rfl | ⟨rfl, h⟩
      · rcases decN_sound hby with h | ⟨ns', h1, h2, _, _⟩
        · rw [hd] at h; injection h with h h'; rw [h]; simp
        · rw [hd] at h1; injection h1 with h1 h1'; cases h1'
      · exact (encN_form h).2.2.1)
    have HSM : Hid (er = 0 → encN ns = (L, 0) ∧ ∀ n ∈ ns, n.ids.length ≤ 5000) := Lib.hid fun h0 => by
      rcases hen with rfl | ⟨_, h⟩
      · cases h0
      · exact ⟨h, fun n hn => by have := ids_small h hw n hn; omega⟩
    obtain ⟨k, hk⟩ : ∃ k, k = ns.length := ⟨_, rfl⟩
    rw [← hk] at HDD HDP HNS
    have hkl := HNS.out
    have HML := Lib.hid hm
    have her : er = 2 ∨ er = 0 := hen.imp id And.left
    have HER := Lib.hid her
    clear hs hd hw hen hk hm HDD0 HDP0 hAc hby her
    go_enter Try.func7, Try.ntmps7
    go_upto_region 7 with (first
      | (go_at_call 24; go_loud ((with_reducible refine (HDD.out).mono ?_); rintro e1 w1 ⟨A1, c1, outs1, rfl, H1⟩; have HDC := Lib.hid (HDP.out w1 H1.out.2.2.2.2.1)))
      | (go_at_call 25; go_loud ((with_reducible refine (HDC.out).mono ?_); rintro e2 w2 ⟨A2, c2, outs2, rfl, H2⟩; have HQ2 := Lib.hid (H1.out.2.2.2.2.1.step H2.out.2.2.2.2.1)))
      | (go_at_call 11; go_loud ((with_reducible refine (nodes_ok _).mono ?_); rintro e5 w5 ⟨rfl, hq5⟩; have HQ5 := Lib.hid hq5.out; have HF := Lib.hid (from_ok A2 k c2 outs2 w5 H2.out.1 (by omega) (H2.out.2.2.2.1.q hq5.out)); clear hq5))
      | (go_at_call 20; go_loud ((with_reducible refine (HF.out).mono ?_); rintro e6 w6 ⟨v6, rfl, H6⟩; obtain ⟨A6, c6, rfl, hN6⟩ := H6.out.nodesAt (H2.out.2.2.2.1.q HQ5.out).parts (H2.out.2.2.2.1.q HQ5.out).fit; rw [H2.out.1]; have HQ6 := Lib.hid (HQ5.out.step H6.out.q); have HSA := Lib.hid (refSame_ok A1 A6 k c1 c6 outs1 outs2 w6 H1.out.1 (H1.out.2.1.trans H2.out.2.1.symm) (by omega) (H1.out.2.2.2.1.q (H2.out.2.2.2.2.1.step HQ6.out)) hN6); clear hN6))
      | (go_at_call 19; go_loud ((with_reducible refine (HSA.out).mono ?_); rintro e7 w7 ⟨rfl, H7⟩; have HQ7 := Lib.hid (HQ6.out.step H7.out))))
    rcases HER.out with rfl | rfl
    · go_wp2_with fail
      go_ret
      exact ⟨rfl, HQ2.out.step HQ7.out⟩
    · have hen := (HSM.out rfl)
      have HEC := Lib.hid (encode_ok A2 k c2 outs2 w7 H2.out.1 (by omega) (H2.out.2.2.2.1.q HQ7.out) (fun z hz => by
        have h1 := hen.2 z.n (by rw [← H2.out.2.1]; exact List.mem_map_of_mem hz)
        have h2 := (H2.out.2.2.1.parts z hz).1
        omega))
      rw [H2.out.2.1, hen.1] at HEC
      clear hen
      go_wp2_with (first
        | (go_at_call 18; go_loud ((with_reducible refine (HEC.out).mono ?_); rintro e8 w8 ⟨A8, c8, n8, rfl, H8⟩; have hk8 := run_convert_sees (P := Try.prog) w8 40 9 5 Try.underlying40 Try.underlying5 Try.underlying9 _ A8 n8 c8 L H8.out.1 (sees_own H8.out.2.1); have hk9 := run_convert_sees (P := Try.prog) w8 40 9 5 Try.underlying40 Try.underlying5 Try.underlying9 _ A0 m0 c0 L HML.out (SeesP.on HS.out (HQ2.out.step (HQ7.out.step H8.out.2.2.1))))))
      go_ret
      exact ⟨rfl, HQ2.out.step (HQ7.out.step H8.out.2.2.1)⟩
theorem nodeDecodes_true (A : Option Addr) (n c : Nat) (zs : List Int) (w : World) (h : IsRow .u8 w A n c zs) :
    Calls Try.prog 7 #[.slice A n c] w fun e w' => e = .returned (.bool true) ∧ Below w.heap.size w w' := by
  obtain ⟨h1, h2, h3, h4, h5, h6⟩ := row8 h n (Nat.le_refl _)
  exact nodeDecodes_walk A n c _ w h1 h2 h3 h4 h5 h6
end Go.Proofs.Ytffenfhbiapefaa
