/- The walk through NodeBack. -/
import Derived.Test.YtffenfhbiapefaaNbp
namespace Go.Proofs.Ytffenfhbiapefaa
set_option linter.unusedVariables false
set_option linter.unusedSimpArgs false
open Go.RowKit

theorem wrap_u8i (l : Int) : ∃ u : Nat, IntKind.u8.wrap l = (u : Int) ∧ u ≤ 255 := by
  refine ⟨(l % 256).toNat, ?_, by omega⟩
  simp [IntKind.wrap, IntKind.bits, IntKind.signed]
  omega
theorem wrap64_nat (k : Nat) (h : k ≤ 9223372036854775807) : wrap64 (k : Int) = (k : Int) := by
  unfold wrap64; omega
theorem rem_lt (u n : Nat) (hn : 0 < n) (hm : n ≤ 9223372036854775807) : ∃ k : Nat, (u : Int) % (n : Int) = (k : Int) ∧ wrap64 (k : Int) = (k : Int) ∧ k < n := by
  refine ⟨u % n, by omega, ?_, Nat.mod_lt _ hn⟩
  have := Nat.mod_lt u hn
  exact wrap64_nat _ (by omega)
theorem read_of {ns : List Nd} {L : List Nat} (hb : ∀ x ∈ L, x ≤ 255) (h : decN L = (ns, 0)) : ∀ n ∈ ns, WasRead n := by
  rcases decN_sound hb with h1 | ⟨ms, h1, _, h3, _⟩
  · rw [h1] at h; injection h with _ h; cases h
  · rw [h1] at h; injection h with h _
    subst h
    exact fun n hn => (h3 n hn).2
theorem run_row_nob {op : Oper} {a : Act} (ho : op.op = .buildSlice 40 0 #[]) (w : World) :
    (execOp a.eval op).run Try.prog w = .ok (.value (.slice (some ⟨w.heap.size, 0, none⟩) 0 0)) (w.alloc (.cells #[] 5)) := by
  have h1 : (Instr.buildSlice 40 0 #[]).run Try.prog w = .ok (.slice (some ⟨w.heap.size, 0, none⟩) 0 0) (w.alloc (.cells #[] 5)) := by kernel_rfl
  unfold execOp
  simp only [ho, List.map_toArray, List.map_nil, Sem.run_bind, h1, Result.andThen_ok, Sem.run_pure]
theorem run_row_byte {op : Oper} {a : Act} (x : Operand) (ho : op.op = .buildSlice 40 1 #[(0, x)]) (y : Nat) (hx : a.eval x = .int .u8 (y : Int)) (w : World) :
    (execOp a.eval op).run Try.prog w = .ok (.value (.slice (some ⟨w.heap.size, 0, none⟩) 1 1)) (w.alloc (.cells #[B8 y] 5)) := by
  have h1 : (Instr.buildSlice 40 1 #[(0, .int .u8 (y : Int))]).run Try.prog w = .ok (.slice (some ⟨w.heap.size, 0, none⟩) 1 1) (w.alloc (.cells #[B8 y] 5)) := by kernel_rfl
  unfold execOp
  simp only [ho, List.map_toArray, List.map_cons, List.map_nil, hx, Sem.run_bind, h1, Result.andThen_ok, Sem.run_pure]
/-- What the laws of what comes back begin with: few, sorted, to, Encode. -/
structure SortedEnc (ys : List NdIn) (L : List Nat) : Prop where
  enc : encN (ys.map (·.n)) = (L, 0)
  byte : ∀ x ∈ L, x ≤ 255
  len : L.length ≤ 20000000
  pos : 0 < L.length
  ids : ∀ n ∈ ys.map (·.n), (∀ i ∈ n.ids, i.length = 32) ∧ n.tree.length = 32
  dec : decN L = (ys.map (·.n), 0)
  few : ys.length ≤ 60
  pn : ∀ z ∈ ys, z.pn ≤ 300
theorem sortedEnc {w : World} {A : Option Addr} {zs : List NdIn} (h : NodesAt w A (sortN (fewL zs))) : ∃ L, SortedEnc (sortN (fewL zs)) L := by
  have hs := sortN_all (fewL zs)
  have hl : (sortN (fewL zs)).length ≤ 60 := Nat.le_trans hs.2.1 fewL_len
  have hp : ∀ z ∈ sortN (fewL zs), z.pn ≤ 300 := fun z hz => fewL_fits z (hs.1 z hz).1
  have he := enc_all hs.2.2 (fun z hz => (hs.1 z hz).2) hl
  have hi : ∀ n ∈ (sortN (fewL zs)).map (·.n), (∀ i ∈ n.ids, i.length = 32) ∧ n.tree.length = 32 := fun n hn => by
    obtain ⟨z, hz, rfl⟩ := List.mem_map.1 hn
    exact ⟨fun i hi => ((h.fit z hz).2.2.1 i hi).1, (h.fit z hz).1.tree⟩
  have hby : ∀ x ∈ [72, 89, 110] ++ numL (sortN (fewL zs)).length ++ ((sortN (fewL zs)).map (·.n)).flatMap encNd, x ≤ 255 := fun x hx => by
    rw [List.mem_append, List.mem_append] at hx
    rcases hx with (hx | hx) | hx
    · simp at hx; omega
    · exact numL_byte _ x hx
    · obtain ⟨n, hn, hx⟩ := List.mem_flatMap.1 hx
      obtain ⟨z, hz, rfl⟩ := List.mem_map.1 hn
      exact encNd_byte (fun i hi => ((h.fit z hz).2.2.1 i hi).2) (h.fit z hz).2.2.2 x hx
  refine ⟨_, ⟨he, hby, ?_, ?_, hi, decN_back he hi, hl, hp⟩⟩
  · have h1 := encNds_len (zs := sortN (fewL zs)) (fun z hz => ⟨good_of (hs.1 z hz).2, fun i hi => ((h.fit z hz).2.2.1 i hi).1, by have := hp z hz; have := (h.fit z hz).1.ids; omega, (h.fit z hz).1.tree⟩)
    rw [List.length_append, List.length_append, List.flatMap_map]
    have h2 := numL_nine (n := (sortN (fewL zs)).length) (by omega)
    have h3 : [72, 89, 110].length = 3 := rfl
    omega
  · rw [List.length_append, List.length_append]
    have h3 : [72, 89, 110].length = 3 := rfl
    omega
set_option maxHeartbeats 16000000 in
set_option maxRecDepth 100000 in
theorem nodeBack_walk (A0 : Option Addr) (nn nc : Nat) (zs : List NdIn) (cut : Int) (w : World) (hz : zs.length = nn) (hn : nn ≤ 9223372036854775807) (h : NodesAt w A0 zs) :
    Calls Try.prog 8 #[.slice A0 nn nc, .int .i64 cut] w fun e w' => e = .returned (.bool true) ∧ Q w w' := by
  obtain ⟨i8, hi8, hz80, hz81, hz82⟩ := info_parts info8
  have HFW := Lib.hid (sorted_few (nc := nc) hz hn h)
  have HSE : Hid (∀ (w : World) (A : Option Addr), NodesAt w A (sortN (fewL zs)) → ∃ L, SortedEnc (sortN (fewL zs)) L) := Lib.hid fun w A h => sortedEnc h
  clear hz hn h
  generalize sortN (fewL zs) = ys at *
  generalize (fewL zs).length = mf at *
  obtain ⟨m, hm⟩ : ∃ m, m = ys.length := ⟨_, rfl⟩
  rw [← hm] at HFW
  have HM := Lib.hid hm.symm
  clear hm
  obtain ⟨u1, hu1, hu1'⟩ := wrap_u64 cut
  obtain ⟨x8, hx8, hx8'⟩ := wrap_u8i cut
  have HU1 := Lib.hid hu1
  have HX8 := Lib.hid hx8
  clear hu1 hu1' hx8
  go_enter Try.func8, Try.ntmps8
  go_upto_region 3 with (first
    | (go_at_call 16; go_loud ((with_reducible refine (HFW.out).mono ?_); rintro e1 w1 ⟨A1, c1, rfl, hq1, H1⟩; have HQ1 := Lib.hid hq1; have HSO := Lib.hid H1; clear hq1 H1))
    | (go_at_call 21; go_loud ((with_reducible refine (HSO.out).mono ?_); rintro e2 w2 ⟨A2, c2, rfl, H2⟩; obtain ⟨L, hL⟩ := HSE.out w2 A2 H2.out.1; have HL := Lib.hid hL; have hml : m ≤ 60 := by { have := hL.few; have := HM.out; omega }; have HT := Lib.hid (to_ok A2 m c2 ys w2 HM.out (by omega) H2.out.1 (fun z hz => by have := HL.out.pn z hz; omega)); clear hL))
    | (go_at_call 10; go_loud ((with_reducible refine (HT.out).mono ?_); rintro e3 w3 ⟨v3, outs, rfl, H3⟩; obtain ⟨A3, c3, rfl, HN3⟩ := H3.out.1.nodesAt (fits_same H3.out.2 H2.out.1.fit); have hol : outs.length = m := (Made.len H3.out.2).trans HM.out; rw [hol]; have hop := map_pn H3.out.2 HL.out.pn; have HE3 := Lib.hid (encode_ok A3 m c3 outs w3 hol (by omega) HN3 (fun z hz => by have := hop z hz; omega)); rw [map_n H3.out.2, HL.out.enc] at HE3; clear HN3 hol hop))
    | (go_at_call 18; go_loud ((with_reducible refine (HE3.out).mono ?_); rintro e4 w4 ⟨A4, c4, n4, rfl, H4⟩)))
  have HQ4 : Hid (Q w w4) := Lib.hid (HQ1.out.step (H2.out.2.step (H3.out.1.q.step H4.out.2.2.1)))
  have HN2 : Hid (NodesAt w4 A2 ys) := Lib.hid (H2.out.1.q (H3.out.1.q.step H4.out.2.2.1))
  have hn4 : L.length = n4 := H4.out.1
  have hcap := own_cap H4.out.2.1
  have hmax := own_max H4.out.2.1
  have hnil := own_nil H4.out.2.1
  have HS4 : Hid (SeesP w4 (· < w4.heap.size) A4 (L.map B8)) := Lib.hid ((sees_own H4.out.2.1).more fun b hb => hb.2)
  have HDC : Hid (∀ wx k, Q w4 wx → k ≤ n4 → Calls Try.prog 25 #[.slice A4 k c4] wx (DecOut 33 wx (decN (L.take k)))) := Lib.hid fun wx k hq hk =>
    decode_ok A4 c4 k (L.take k) (· < wx.heap.size) wx (by rw [List.length_take]; omega) (by rw [List.map_take]; exact (SeesP.on HS4.out hq).take k) (fun _ h => h) (fun x hx => HL.out.byte x (List.mem_of_mem_take hx)) (by have := HL.out.len; omega) (by omega) hmax hnil
  have HDA : Hid (∀ wx, Q w4 wx → Calls Try.prog 25 #[.slice A4 n4 c4] wx (DecAs 33 wx (ys.map (·.n)) 0 m)) := Lib.hid fun wx hq => by
    have h1 := HDC.out wx n4 hq (Nat.le_refl _)
    rw [List.take_of_length_le (by omega), HL.out.dec] at h1
    have h2 := h1.mono fun e w' h => h.as_ (read_of HL.out.byte HL.out.dec)
    rw [List.length_map, HM.out] at h2
    exact h2
  have hn4p : 0 < n4 := by rw [← hn4]; exact HL.out.pos
  have hn4m : n4 ≤ 20000000 := by rw [← hn4]; exact HL.out.len
  obtain ⟨k, hk1, hk2, hk3⟩ := rem_lt u1 n4 hn4p (by omega)
  have HK1 := Lib.hid hk1
  have HK2 := Lib.hid hk2
  clear hk1 hk2
  have HSH : Hid (∀ wx, Q w4 wx → Calls Try.prog 25 #[.slice A4 k c4] wx (DecOut 33 wx ([], 2))) := Lib.hid fun wx hq => by
    have h1 := HDC.out wx k hq (by omega)
    rw [dec_short HL.out.enc HL.out.byte HL.out.ids k (by omega)] at h1
    exact h1
  have HLG : Hid (∀ (wx wy : World) (A : Option Addr) (c : Nat), wx.ownsRow wy.heap.size 5 1 (.slice A (n4 + 1) c) (n4 + 1) (L.map B8 ++ [B8 x8]) → Calls Try.prog 25 #[.slice A (n4 + 1) c] wx (DecOut 33 wx ([], 2))) := Lib.hid fun wx wy A c ho => by
    have h1 := decode_ok A c (n4 + 1) (L ++ [x8]) (fun b => wy.heap.size ≤ b ∧ b < wx.heap.size) wx (by rw [List.length_append, hn4]; rfl) (by rw [List.map_append]; exact sees_own ho) (fun b hb => hb.2) (fun x hx => by
      rcases List.mem_append.1 hx with hx | hx
      · exact HL.out.byte x hx
      · rw [List.mem_singleton.1 hx]; exact hx8') (by omega) (own_cap ho).1 (own_max ho) (own_nil ho)
    rw [dec_long HL.out.enc HL.out.byte HL.out.ids x8 hx8'] at h1
    exact h1
  have HN4 := Lib.hid (And.intro hn4 hcap.1)
  have HAC := Lib.hid hnil
  have hd0 : ((n4 : Int) == 0) = false := beq_eq_false_iff_ne.2 (by omega)
  clear hn4 hcap hmax hnil HDC HFW HSE HSO HT HE3 H3
  go_upto_region 8 with (first
    | (go_at_call 11; go_loud ((with_reducible refine (nodes_ok _).mono ?_); rintro e5 w5 ⟨rfl, hq5⟩; have HQ5 := Lib.hid hq5.out; have HD5 := Lib.hid (HDA.out w5 hq5.out); clear hq5))
    | (go_at_call 25; go_loud ((with_reducible refine (HD5.out).mono ?_); rintro e6 w6 ⟨A6, c6, outs6, rfl, H6⟩; have HQ6 := Lib.hid (HQ5.out.step H6.out.2.2.2.2.1); have HF6 := Lib.hid (from_ok A6 m c6 outs6 w6 H6.out.1 (by omega) H6.out.2.2.2.1)))
    | (go_at_call 20; go_loud ((with_reducible refine (HF6.out).mono ?_); rintro e7 w7 ⟨v7, rfl, H7⟩; obtain ⟨A7, c7, rfl, hN7⟩ := H7.out.nodesAt H6.out.2.2.2.1.parts H6.out.2.2.2.1.fit; rw [H6.out.1]; have HQ7 := Lib.hid (HQ6.out.step H7.out.q); have HS7 := Lib.hid (refSame_ok A7 A2 m c7 c2 outs6 ys w7 H6.out.1 H6.out.2.1 (by omega) hN7 (HN2.out.q HQ7.out)); clear hN7))
    | (go_at_call 19; go_loud ((with_reducible refine (HS7.out).mono ?_); rintro e8 w8 ⟨rfl, H8⟩; have HQ8 := Lib.hid (HQ7.out.step H8.out))))
  have hu1 := HU1.out
  have hk1 := HK1.out
  have hk2 := HK2.out
  have hn64 : IntKind.u64.wrap (n4 : Int) = (n4 : Int) := by simp [IntKind.wrap, IntKind.bits, IntKind.signed]; omega
  go_upto_region 9 with fail
  clear hu1 hk1 hk2 hn64
  have hx8 := HX8.out
  go_wp2_with (first
    | ((with_reducible refine gate 52 rfl ?_); go_loud (refine wpList_slice_hi rfl 40 (.tmp 50) (.tmp 51) rfl 5 Try.underlying40 i8 hi8 A4 n4 c4 rfl .i64 k rfl (Nat.le_trans (Nat.le_of_lt hk3) HN4.out.2) ?_; have HD9 := Lib.hid (HSH.out w8 HQ8.out)))
    | (go_at_call 25; ((with_reducible refine (HD9.out).mono ?_); rintro e9 w9 ⟨A9, c9, outs9, rfl, hm9, H9⟩; have HQ9 := Lib.hid (HQ8.out.step H9.out.2); clear hm9))
    | ((with_reducible refine gate 57 rfl ?_); go_loud (refine wpList_val rfl (run_row_nob rfl _) ?_; have HOW := Lib.hid (World.ownsRow_lit (e := 5) (size := 1) w9 #[] 0 (Nat.le_refl _) (Nat.zero_le _) rfl); have HQa := Lib.hid (HQ9.out.alloc (.cells #[] 5))))
    | ((with_reducible refine gate 59 rfl ?_); go_loud (refine wpList_append_row rfl (.tmp 57) (.tmp 58) 40 rfl w9.heap.size 5 i8 _ 1 Try.underlying40 hi8 hz80 hz81 hz82 rfl _ 0 [] rfl HOW.out (· < (w9.alloc (.cells #[] 5)).heap.size) A4 n4 c4 (L.map B8) rfl HAC.out (by rw [List.length_map]; exact HN4.out.1) (SeesP.on HS4.out HQa.out) (B8_one L) (by unfold maxLen; omega) (by omega) (by simp) ?_; intro va wa howna hgra; rw [Nat.zero_add, List.nil_append] at howna; have HA := Lib.hid (And.intro howna (hgra.q ((Q.refl w9).alloc (.cells #[] 5)) HOW.out)); clear howna hgra))
    | ((with_reducible refine gate 62 rfl ?_); go_loud (refine wpList_val rfl (run_row_byte (.tmp 61) rfl x8 rfl _) ?_; have HQb := Lib.hid (HA.out.2.alloc (.cells #[B8 x8] 5)); have HOb := Lib.hid (own_q HA.out.1 ((Q.refl wa).alloc (.cells #[B8 x8] 5)))))
    | ((with_reducible refine gate 63 rfl ?_); go_loud (refine wpList_append_row rfl (.tmp 59) (.tmp 62) 40 rfl w9.heap.size 5 i8 _ 1 Try.underlying40 hi8 hz80 hz81 hz82 rfl _ n4 (L.map B8) rfl HOb.out (· = wa.heap.size) (some ⟨wa.heap.size, 0, none⟩) 1 1 [B8 x8] rfl (fun h => by cases h) rfl (sees_one wa (B8 x8) 5 _ rfl) (B8_one [x8]) (by unfold maxLen; omega) (by omega) HQb.out.size ?_; intro vc wc hownc hgrc; obtain ⟨Ac, cc, rfl⟩ := own_form hownc; have HQc := Lib.hid (hgrc.q HQb.out HOb.out); have HDc := Lib.hid (HLG.out wc w9 Ac cc hownc); clear hownc hgrc))
    | (go_at_call 25; go_loud ((with_reducible refine (HDc.out).mono ?_); rintro e10 w10 ⟨A10, c10, outs10, rfl, hm10, H10⟩; clear hm10)))
  go_ret
  exact ⟨rfl, HQ4.out.step (HQ9.out.step (HQc.out.step H10.out.2))⟩
theorem nodeBack_true (A : Option Addr) (n c : Nat) (zs : List NdIn) (cut : Int) (_ : (Lit.int .i64 cut).wf = true) (w : World) (h : RowOfR w 39 (NdR w) A n c zs) :
    Calls Try.prog 8 #[.slice A n c, .int .i64 cut] w fun e w' => e = .returned (.bool true) ∧ Below w.heap.size w w' := by
  obtain ⟨h1, h2⟩ := nodes_of_row h
  exact nodeBack_walk A n c _ cut w h2 (by have := h.le; have := h.max; unfold maxLen at this; omega) h1
end Go.Proofs.Ytffenfhbiapefaa
