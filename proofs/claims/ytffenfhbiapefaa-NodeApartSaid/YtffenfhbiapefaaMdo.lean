/- The walk through node.get: the next node. -/
import Derived.Test.YtffenfhbiapefaaGtp
namespace Go.Proofs.Ytffenfhbiapefaa
set_option linter.unusedVariables false
set_option linter.unusedSimpArgs false
open Go.RowKit

section
/-- What a call leaves that hands a node back, its list in a row of its own. -/
def InNode (w : World) (base : Nat → Prop) (g : Nat) (r : Nd × (Nat × List Nat)) (e_ : Ending) (w' : World) : Prop :=
  ∃ A pc, e_ = .returned (.agg (ndC r.1 A r.1.ids.length pc)) ∧ Hid (InHas w' base g r.2.1 r.2.2 ∧ Only (fun k => k = g) w w' ∧ w'.ownsRow w.heap.size 24 32 (.slice A r.1.ids.length pc) r.1.ids.length (idsL r.1.ids))
theorem numRd_le {limit : Int} {s t : Nat × List Nat} {v : Nat} (hb : ∀ x ∈ s.2, x ≤ 255) (hl : 0 ≤ limit) (h : numRd limit s = (v, t)) : (v : Int) ≤ limit := by
  by_cases ht : t.1 = 0
  · exact (num_sound hb h ht).2.2.2
  · rw [numRd_err h ht]; exact hl
theorem numRd_bytes {limit : Int} {s t : Nat × List Nat} {v : Nat} (hb : ∀ x ∈ s.2, x ≤ 255) (h : numRd limit s = (v, t)) : ∀ x ∈ t.2, x ≤ 255 := by
  by_cases ht : t.1 = 0
  · exact bytes_tail hb (num_sound hb h ht).2.1
  · unfold numRd at h
    split at h
    · split at h
      · rw [Prod.mk.injEq] at h; rw [← h.2] at ht; exact absurd rfl ht
      · rw [Prod.mk.injEq] at h; rw [← h.2]; exact hb
    · rw [Prod.mk.injEq] at h; rw [← h.2]; exact hb
theorem rawRd_bytes {n : Int} {s t : Nat × List Nat} {x : List Nat} (hb : ∀ x ∈ s.2, x ≤ 255) (h : rawRd n s = (x, t)) : ∀ x ∈ t.2, x ≤ 255 := by
  unfold rawRd at h
  split at h
  · split at h
    · rw [Prod.mk.injEq] at h; rw [← h.2]; exact hb
    · split at h
      · rw [Prod.mk.injEq] at h; rw [← h.2]; exact hb
      · rw [Prod.mk.injEq] at h; rw [← h.2]; exact fun y hy => hb y (List.mem_of_mem_drop hy)
  · rw [Prod.mk.injEq] at h; rw [← h.2]; exact hb
theorem sizeS1 : (Try.prog.info? 9).map (·.size) = some 1 := by kernel_rfl
theorem sizeI1 : (Try.prog.info? 3).map (·.size) = some 1 := by kernel_rfl
theorem sizeR1 : (Try.prog.info? 22).map (·.size) = some 1 := by kernel_rfl
theorem tree_put (n : Nd) (x : List Nat) (B : Option Addr) (bn bc : Nat) (i : Nat) (hi : i < 39) : (if 7 ≤ i ∧ i < 7 + 32 then arrF x (i - 7) else ndF n B bn bc i) = ndF { n with tree := x } B bn bc i := by
  unfold ndF
  simp only
  by_cases h : 7 ≤ i
  · rw [if_pos ⟨h, by omega⟩, if_neg (by omega), if_neg (by omega), if_neg (by omega), if_neg (by omega), if_neg (by omega), if_neg (by omega), if_neg (by omega)]
  · rw [if_neg (by omega)]
    rcases (show i = 0 ∨ i = 1 ∨ i = 2 ∨ i = 3 ∨ i = 4 ∨ i = 5 ∨ i = 6 by omega) with rfl | rfl | rfl | rfl | rfl | rfl | rfl <;> rfl
theorem target_put (n : Nd) (x : ByteArray) (B : Option Addr) (bn bc : Nat) (i : Nat) (hi : i < 39) : (if i = 5 then .string x else ndF n B bn bc i) = ndF { n with target := x } B bn bc i := by
  unfold ndF
  by_cases h : i = 5
  · subst h; rfl
  · rw [if_neg h]
    simp only [if_neg h]
theorem size_put (n : Nd) (x : Int) (B : Option Addr) (bn bc : Nat) (i : Nat) (hi : i < 39) : (if i = 4 then .int .i64 x else ndF n B bn bc i) = ndF { n with size := x } B bn bc i := by
  unfold ndF
  by_cases h : i = 4
  · subst h; rfl
  · rw [if_neg h]
    simp only [if_neg h]
theorem run_build_node4 {op : Oper} {a : Act} (nm : ByteArray) (k m t : Int) (x0 x1 x2 x3 : Operand) (ho : op.op = .build 33 #[(0, x0), (1, x1), (2, x2), (3, x3)])
    (h0 : a.eval x0 = .string nm) (h1 : a.eval x1 = .int .i64 k) (h2 : a.eval x2 = .int .i64 m) (h3 : a.eval x3 = .int .i64 t) (n0 : Nd) (hn0 : n0 = { noNd with name := nm, kind := k, mode := m, time := t }) (w : World) :
    (execOp a.eval op).run Try.prog w = .ok (.value (.agg (ndC n0 none 0 0))) w := by
  subst hn0
  have hr : (Instr.build 33 #[(0, .string nm), (1, .int .i64 k), (2, .int .i64 m), (3, .int .i64 t)]).run Try.prog w = .ok (.agg (ndC { noNd with name := nm, kind := k, mode := m, time := t } none 0 0)) w := by kernel_rfl
  unfold execOp
  simp only [ho, List.map_toArray, List.map_cons, List.map_nil, h0, h1, h2, h3, Sem.run_bind, hr, Result.andThen_ok, Sem.run_pure]
theorem numK {base : Nat → Prop} {g : Nat} {limit : Int} (hl : -9223372036854775808 ≤ limit ∧ limit ≤ 9223372036854775807) {s t : Nat × List Nat} {v : Nat} (h : numRd limit s = (v, t)) :
    Hid (∀ wx, InHas wx base g s.1 s.2 → Calls Try.prog 44 #[.pointer (some ⟨g, 0, none⟩), .int .i64 limit] wx (InDone wx base g (.int .i64 (v : Int)) t)) := Lib.hid fun wx hi => by
  have h1 := num_in base g s.1 s.2 wx limit hi hl
  rw [show (s.1, s.2) = s from rfl, h] at h1
  exact h1
theorem textK {base : Nat → Prop} {g : Nat} {limit : Int} (hl : -9223372036854775808 ≤ limit ∧ limit ≤ 9223372036854775807) {s t : Nat × List Nat} {v : List Nat} (h : textRd limit s = (v, t)) :
    Hid (∀ wx, InHas wx base g s.1 s.2 → Calls Try.prog 56 #[.pointer (some ⟨g, 0, none⟩), .int .i64 limit] wx (InDone wx base g (.string (strB v)) t)) := Lib.hid fun wx hi => by
  have h1 := text_in base g s.1 s.2 wx limit hi hl
  rw [show (s.1, s.2) = s from rfl, h] at h1
  exact h1
theorem idK {base : Nat → Prop} {g : Nat} {s t : Nat × List Nat} {v : List Nat} (h : idRd s = (v, t)) :
    Hid (∀ wx, InHas wx base g s.1 s.2 → Calls Try.prog 57 #[.pointer (some ⟨g, 0, none⟩)] wx fun e_ w' => e_ = .returned (.agg (arrO v)) ∧ InHas w' base g t.1 t.2 ∧ Only (fun k => k = g) wx w') := Lib.hid fun wx hi => by
  have h1 := nid_ok base g s.1 s.2 wx hi
  rw [show (s.1, s.2) = s from rfl, h] at h1
  exact h1
set_option maxHeartbeats 16000000 in
set_option maxRecDepth 100000 in
theorem get_ok (base : Nat → Prop) (g e : Nat) (L : List Nat) (w : World) (h : InHas w base g e L) :
    Calls Try.prog 45 #[.pointer (some ⟨g, 0, none⟩)] w (InNode w base g (getRd (e, L))) := by
  obtain ⟨iI, hiI, hzI0, hzI1, hzI2⟩ := info_parts infoI
  obtain ⟨b', hb'⟩ : ∃ b' : Nat → Prop, b' = fun k => base k ∧ k < w.heap.size := ⟨_, rfl⟩
  have hby := h.byte
  have HH1 : Hid (∀ w1, Q w w1 → InHas w1 b' g e L) := Lib.hid fun w1 hq => by rw [hb']; exact h.cap.q hq
  have HLW : Hid (∀ w2 e2 M, InHas w2 b' g e2 M → InHas w2 base g e2 M) := Lib.hid fun w2 e2 M hh => by rw [hb'] at hh; exact hh.lower fun k hk => hk.1
  have HI : Hid (∀ w1 : World, w1.heap.size = w.heap.size + 1 → InLike g w1.heap.size (fun w s => InHas w b' g s.1 s.2)) := Lib.hid fun w1 h1 => inLike_of (by have := h.lt; omega) (fun k hk => by rw [hb'] at hk; have := hk.2; omega)
  have HBK : Hid (∀ k, b' k → k < w.heap.size) := Lib.hid fun k hk => by rw [hb'] at hk; exact hk.2
  have hgl := h.lt
  clear h hb'
  obtain ⟨⟨a, s1⟩, ha⟩ : ∃ r, textRd 255 (e, L) = r := ⟨_, rfl⟩
  obtain ⟨⟨k, s2⟩, hk⟩ : ∃ r, numRd 2 s1 = r := ⟨_, rfl⟩
  obtain ⟨⟨m, s3⟩, hm⟩ : ∃ r, numRd 4095 s2 = r := ⟨_, rfl⟩
  obtain ⟨⟨ti, s4⟩, hti⟩ : ∃ r, numRd 1099511627776 s3 = r := ⟨_, rfl⟩
  have HT := textK (base := b') (g := g) (by omega) ha
  have HK := numK (base := b') (g := g) (by omega) hk
  have HM := numK (base := b') (g := g) (by omega) hm
  have HTI := numK (base := b') (g := g) (by omega) hti
  have hgr : getRd (e, L) = tailRd { noNd with name := strB a, kind := (k : Int), mode := (m : Int), time := (ti : Int) } s4 := by
    unfold getRd headRd
    simp only [ha, hk, hm, hti]
  obtain ⟨n0, hn0⟩ : ∃ n0 : Nd, n0 = { noNd with name := strB a, kind := (k : Int), mode := (m : Int), time := (ti : Int) } := ⟨_, rfl⟩
  rw [← hn0] at hgr
  have hids0 : n0.ids = [] := by rw [hn0]; rfl
  have hkd0 : n0.kind = (k : Int) := by rw [hn0]
  obtain ⟨r, hr⟩ : ∃ r, tailRd n0 s4 = r := ⟨_, rfl⟩
  have HR := Lib.hid hr
  rw [hgr, hr]
  have HN0 := Lib.hid hn0
  have HK0 := Lib.hid (And.intro hkd0 hids0)
  have hb4 : ∀ x ∈ s4.2, x ≤ 255 := by
    have b1 : ∀ x ∈ s1.2, x ≤ 255 := by
      unfold textRd at ha
      obtain ⟨⟨v, u⟩, hv⟩ : ∃ r, numRd (min 255 131072) (e, L) = r := ⟨_, rfl⟩
      rw [hv] at ha
      exact rawRd_bytes (numRd_bytes (s := (e, L)) hby hv) ha
    exact numRd_bytes (numRd_bytes (numRd_bytes b1 hk) hm) hti
  have HB4 := Lib.hid hb4
  clear hgr ha hk hm hti hr hn0 hids0 hkd0 hb4 hby
  go_enter Try.func45, Try.ntmps45
  go_upto_region 2 with (first
    | ((with_reducible refine gate 2 rfl ?_); go_loud (refine wpList_alloc_row rfl 33 rfl _ (zeroN _) 39 _ (ndC_size _ _ _ _) (ndC_get _ _ _ _) ?_; intro w1 hr1 hx1; have HR1 := Lib.hid hr1; have HQ1 := Lib.hid (hx1.q (Q.refl w)); have HI1 := Lib.hid (HH1.out w1 HQ1.out); have HS1 : Hid (w1.heap.size = w.heap.size + 1) := Lib.hid (by have := hx1.size; simpa using this); clear hr1 hx1))
    | (go_at_call 56; go_loud ((with_reducible refine (HT.out _ HI1.out).mono ?_); rintro e2 w2 ⟨rfl, hin2, ho2⟩; have HI2 := Lib.hid hin2; have HO2 := Lib.hid ho2; clear hin2 ho2))
    | (go_at_call 44; ((with_reducible refine (HK.out _ HI2.out).mono ?_); rintro e3 w3 ⟨rfl, hin2, ho2⟩; have HI3 := Lib.hid hin2; have HO3 := Lib.hid (HO2.out.trans ho2); clear hin2 ho2))
    | (go_at_call 44; ((with_reducible refine (HM.out _ HI3.out).mono ?_); rintro e4 w4 ⟨rfl, hin2, ho2⟩; have HI4 := Lib.hid hin2; have HO4 := Lib.hid (HO3.out.trans ho2); clear hin2 ho2))
    | (go_at_call 44; go_loud ((with_reducible refine (HTI.out _ HI4.out).mono ?_); rintro e5 w5 ⟨rfl, hin2, ho2⟩; have HI5 := Lib.hid hin2; have HO5 := Lib.hid (HO4.out.trans ho2); clear hin2 ho2))
    | ((with_reducible refine gate 12 rfl ?_); go_loud (refine wpList_val rfl (run_build_node4 (strB a) k m ti (.tmp 5) (.tmp 7) (.tmp 9) (.tmp 11) rfl rfl rfl rfl rfl n0 HN0.out _) ?_))
    | ((with_reducible refine gate 3 rfl ?_); go_loud (refine wpList_alloc_row rfl 33 rfl _ (zeroN _) 39 _ (ndC_size _ _ _ _) (ndC_get _ _ _ _) ?_; intro w6 hr6 hx6; have HR6 := Lib.hid hr6; have HX6 := Lib.hid (hx6.q (Q.refl w5)); clear hr6 hx6))
    | ((with_reducible refine gate0 rfl ?_); go_loud (refine wpList_store_all rfl 33 (.tmp 3) (.tmp 12) rfl w5.heap.size rfl _ rfl 39 sizeN _ (nd_agg n0 none 0 0) (fun i _ => ndF_one _ _ _ _ i) 33 _ HR6.out ?_; intro w7 hr7 hp7; have HR7 := Lib.hid hr7; have HP7 := Lib.hid hp7; clear hr7 hp7)))
  have HIL := Lib.hid (HI.out w1 HS1.out)
  have HG : Hid (GetP 33 (fun w s => InHas w b' g s.1 s.2) w1 g w5.heap.size s4 n0 none 0 0 (.slice none 0 0) [] w7) := Lib.hid (by
    have ht : w1.heap.size ≤ w5.heap.size := HO5.out.size
    have h0 : GetP 33 (fun w s => InHas w b' g s.1 s.2) w1 g w5.heap.size s4 noNd none 0 0 (.slice none 0 0) [] w6 := ⟨HI5.out.q HX6.out, HR6.out, ht, World.ownsRow_nil _ _ _ _, by simp [Value.ownBlock], HO5.out.step HX6.out⟩
    exact h0.put HIL.out HP7.out HR7.out)
  have HN2 : Hid (w.heap.size < w1.heap.size) := Lib.hid (by have := HS1.out; omega)
  obtain ⟨N, hN⟩ : ∃ N, N = w5.heap.size := ⟨_, rfl⟩
  rw [← hN] at HG
  rw [← hN]
  clear hN HT HK HM HTI HI1 HI2 HI3 HI4 HI5 HO2 HO3 HO4 HO5 HR6 HX6 HR7 HP7 HN0 HI HH1
  obtain ⟨c0, c1, c2, c3, c4, c5, c6⟩ := nd_cells HG.out.node
  rw [HK0.out.1] at c1
  have HRB : Hid (∀ (n : Nd) (B : Option Addr) (bn bc : Nat) (u : Value) (acc : List (List Nat)) (s : Nat × List Nat) (wx wy : World), GetP 33 (fun w s => InHas w b' g s.1 s.2) w1 g N s n B bn bc u acc wx → Put w.heap.size wx wy → u = .slice B bn bc → acc = n.ids → bn = acc.length → r = (n, s) → InNode w base g r (.returned (.agg (ndC n B bn bc))) wy) := Lib.hid fun n B bn bc u acc s wx wy hG hP hu hacc hbn hr => by
    subst hr hu hbn hacc
    have ho : Only (fun k => k = w.heap.size) wx wy := (Only.refl _ _).put hP rfl
    have hS1 := HS1.out
    have ht := hG.top
    refine ⟨B, bc, rfl, Lib.hid ⟨HLW.out _ _ _ (hG.inn.only ho (by omega) (fun k hk _ _ e => by have := HBK.out k hk; omega)), ?_, ?_⟩⟩
    · exact ((Only.of_q HQ1.out).trans hG.only).through ho (fun k hk => .inr (by omega))
    · exact own_mono (own_only hG.own ho (fun k hk e => by have := own_block hG.own k hk; omega)) (by omega)
  have HNG : Hid (¬ w.heap.size = g) := Lib.hid (by omega)
  have hkk : tailRd n0 s4 = r := HR.out
  unfold tailRd at hkk
  have hkd := HK0.out.1
  by_cases h0 : k = 0
  · subst h0
    rw [if_pos (by omega)] at hkk
    clear hkd
    obtain ⟨⟨z, s5⟩, hz⟩ : ∃ r, numRd 1048576 s4 = r := ⟨_, rfl⟩
    obtain ⟨⟨c, s6⟩, hc⟩ : ∃ r, numRd (z : Int) s5 = r := ⟨_, rfl⟩
    simp only [hz, hc] at hkk
    have hzl := numRd_le HB4.out (by omega) hz
    have hcl := numRd_le (numRd_bytes HB4.out hz) (by omega) hc
    have HKZ := numK (base := b') (g := g) (by omega) hz
    have HKC := numK (base := b') (g := g) (by omega) hc
    obtain ⟨n1, hn1⟩ : ∃ n1 : Nd, n1 = { n0 with size := (z : Int) } := ⟨_, rfl⟩
    have hn1i : { n1 with ids := [] } = n1 := by
      have := HK0.out.2
      rw [hn1]
      cases n0
      simp only at this ⊢
      rw [this]
    have hnr : ∀ l : List (List Nat), ({ n0 with size := (z : Int), ids := l } : Nd) = { n1 with ids := l } := fun l => by rw [hn1]
    rw [hnr] at hkk
    have HKK := Lib.hid hkk
    have HN1 := Lib.hid hn1
    have HN1I := Lib.hid hn1i
    clear hkk hz hc HK0 HR HB4 hn1 hn1i hnr c0 c2 c3 c4 c5 c6
    go_wp2_with (first
      | (go_at_call 44; (with_reducible refine (HKZ.out _ HG.out.inn).mono ?_); rintro e8 w8 ⟨rfl, hin8, ho8⟩; have HG4 := Lib.hid (HG.out.turn HIL.out (s' := s5) hin8 ho8); clear hin8 ho8)
      | ((with_reducible refine gate0 rfl ?_); (refine wpList_store_one rfl 3 (.tmp 19) (.tmp 18) rfl N 4 rfl _ rfl sizeI1 rfl rfl 33 39 _ HG4.out.box (by omega) ?_; intro w9 hr9 hp9; have HG5 := Lib.hid (HG4.out.put HIL.out (n' := n1) hp9 (hr9.congr (fun i hi => by rw [HN1.out]; exact size_put n0 (z : Int) none 0 0 i hi))); have c4 : w9.cell? ⟨N, 4, none⟩ = some (.int .i64 (z : Int)) := by { have h5 := HG5.out.node.size; rw [HN1.out] at h5; exact h5 }; clear hr9 hp9))
      | (go_at_call 44; go_loud ((with_reducible refine (HKC.out _ HG5.out.inn).mono ?_); rintro e10 w10 ⟨rfl, hin8, ho8⟩; have HG6 := Lib.hid (HG5.out.turn HIL.out (s' := s6) hin8 ho8); clear hin8 ho8)))
    go_loopw [24] (fun i wr => ∃ (j : Nat) (acc : List (List Nat)) (A : Option Addr) (pc : Nat) (s : Nat × List Nat), j ≤ c ∧ i = .int .i64 j ∧ acc.length = j ∧ Hid (GetP 33 (fun w s => InHas w b' g s.1 s.2) w1 g N s { n1 with ids := acc } A j pc (.slice A j pc) acc wr ∧ idsRd c s6 = (acc ++ (idsRd (c - j) s).1, (idsRd (c - j) s).2))) (fun i _ => c - (intOf i).toNat)
    case atStart => exact ⟨0, [], none, 0, s6, by omega, rfl, rfl, by rw [HN1I.out]; exact HG6.out, by simp⟩
    case round =>
      obtain ⟨j, acc, A, pc, s, hj, rfl, hal, HJ⟩ := hrel
      obtain ⟨wi, hwi⟩ : ∃ w, w = wr := ⟨_, rfl⟩
      subst hwi
      have HAL := Lib.hid hal
      clear hal
      by_cases hjc : j < c
      · have HER := Lib.hid (err_in b' g s.1 s.2 wi HJ.out.1.inn)
        by_cases hs : s.1 = 0
        · obtain ⟨⟨x, s'⟩, hx⟩ : ∃ r, idRd s = r := ⟨_, rfl⟩
          have HID := idK (base := b') (g := g) hx
          have HNX : Hid (idsRd c s6 = ((acc ++ [x]) ++ (idsRd (c - (j + 1)) s').1, (idsRd (c - (j + 1)) s').2)) := Lib.hid (by
            rw [HJ.out.2, show c - j = (c - (j + 1)) + 1 by omega]
            rw [idsRd, if_neg (by simp [hs]), hx]
            simp)
          rw [hs] at HER
          have HJ0 : Hid (PushJ 33 (fun w s => InHas w b' g s.1 s.2) w1 g N s s' n1 A j pc acc x 0 [] wi.drew) := Lib.hid ⟨rfl, HJ.out.1.q HIL.out (Below.refl _ _).drew⟩
          have HGL : Hid (g < w1.heap.size) := Lib.hid HIL.out.lt
          have HCL : Hid (acc.length = j ∧ j ≤ 1048576) := Lib.hid ⟨HAL.out, by omega⟩
          clear hx hs
          go_wp2_with (first
            | (go_at_call 46; go_loud ((with_reducible refine (HER.out).mono ?_); rintro e8 w8 ⟨rfl, rfl⟩)))
          -- REGION
          refine wp_region_factsY (S := List Value) (by kernel_rfl) (by kernel_rfl) (PushJ 33 (fun w s => InHas w b' g s.1 s.2) w1 g N s s' n1 A j pc acc x) (factsX (Gh := PushGh g N (.slice A j pc)) [.is (.pointer (some ⟨N, 6, none⟩)), .is (.slice A j pc), .is (.pointer (some ⟨g, 0, none⟩)), .is (.agg (arrO x)), .that (OneId g N (.slice A j pc) x) (OneId.q) (OneId.g), .that (fun u v _ => v[0]? = some u) (his_q 0) (his_g 0), .is (.pointer (some ⟨N, 6, none⟩)), .any]) (PushGh g N (.slice A j pc)) (fun i => ([none, none, none, some 0, none, some 1, none, some 2] : List (Option Nat)).getD i none) (by kernel_rfl) 3 (by kernel_rfl) (PushJ.q HIL.out) (factsX_q _) (factsX_g _) ([]) (HJ0.out) ?_ ?_
          · refine ⟨?_, ?_, ?_, ?_, ?_, ?_, ?_, ?_, trivial⟩
            · intro ax wx vx cx hj hgl hfr hd
              have f3 : ax.tmps.getD 3 undef = .pointer (some ⟨N, 0, none⟩) := (hfr 3 (by kernel_rfl)).trans rfl
              have e3 := (getD_form _ _).symm.trans f3
              exact .inl ⟨wanted_free rfl, OpDoes.run (v := .pointer (some ⟨N, 6, none⟩)) (w' := wx) (by unfold execOp; simp [go_sem, Act.eval, e3]) ⟨Below.refl _ _, rfl⟩⟩
            · intro ax wx vx cx hj hgl hfr hd
              have f29 : ax.tmps.getD 29 undef = .pointer (some ⟨N, 6, none⟩) := hd 0 (by kernel_rfl) _ _ rfl rfl
              have e29 := (getD_form _ _).symm.trans f29
              have hc := (PushJ.old (hgl 7 _ 2 rfl rfl (by kernel_rfl)) hj).parts
              rw [Nat.zero_add] at hc
              exact .inl ⟨wanted_free rfl, OpDoes.run (v := .slice A j pc) (w' := wx) (by unfold execOp; simp [go_sem, Act.eval, e29, hc]) ⟨Below.refl _ _, rfl⟩⟩
            · intro ax wx vx cx hj hgl hfr hd
              have f0 : ax.tmps.getD 0 undef = .pointer (some ⟨g, 0, none⟩) := (hfr 0 (by kernel_rfl)).trans rfl
              have e0 := (getD_form _ _).symm.trans f0
              exact .inl ⟨wanted_free rfl, OpDoes.run (v := .pointer (some ⟨g, 0, none⟩)) (w' := wx) (by unfold execOp; simp only [Act.eval, f0, Sem.run_pure]) ⟨Below.refl _ _, rfl⟩⟩
            · intro ax wx vx hj hfr hd
              have f31 : ax.tmps.getD 31 undef = .pointer (some ⟨g, 0, none⟩) := hd 2 (by kernel_rfl) _ _ rfl rfl
              have e31 := (getD_form _ _).symm.trans f31
              exact ⟨wanted_free rfl, OpDoes.call (f := 57) (args := #[.pointer (some ⟨g, 0, none⟩)]) (w' := wx) (by unfold execOp; simp [go_sem, Act.eval, e31]) ((HID.out wx hj.2.inn).mono fun e_ w2 ⟨h1, h2, h3⟩ => ⟨_, h1, vx, (PushJ.s0 HIL.out hj h2 h3).1, (PushJ.s0 HIL.out hj h2 h3).2, rfl⟩)⟩
            · intro ax wx vx cx hj hgl hfr hd
              have f32 : ax.tmps.getD 32 undef = .agg (arrO x) := hd 3 (by kernel_rfl) _ _ rfl rfl
              have e32 := (getD_form _ _).symm.trans f32
              exact .inl ⟨wanted_free rfl, OpDoes.run (run_row_id (.tmp 32) rfl x f32 wx) ⟨(Q.refl wx).alloc _, PushJ.newId HGL.out hj x⟩⟩
            · intro ax wx vx hj hfr hd
              have f30 : ax.tmps.getD 30 undef = .slice A j pc := hd 1 (by kernel_rfl) _ _ rfl rfl
              have e30 := (getD_form _ _).symm.trans f30
              have h33 : (OneId g N (.slice A j pc) x) (ax.tmps.getD 33 undef) vx wx := hd 4 (by kernel_rfl) _ _ rfl rfl
              obtain ⟨k, e33, k2, k3, k4, k5, k6⟩ := h33
              refine ⟨wanted_free rfl, does_append (.tmp 30) (.tmp 33) 22 rfl w1.heap.size 24 iI _ 32 32 Try.underlying22 hiI hzI0 hzI1 hzI2 rfl (by omega) _ acc.length (idsL acc) f30 hj.2.own (· = k) (some ⟨k, 0, none⟩) 1 1 (gL x) e33 (fun h => by cases h) (gL_len _) k6 (gL_one _) (by have := HCL.out; unfold maxLen; omega) (by have := HCL.out; omega) hj.2.only.size fun v' w' hown hgr => ?_⟩
              obtain ⟨q1, q2, q3⟩ := PushJ.s1 HIL.out HCL.out.1 hj hgr hown
              exact ⟨_, q1, q2, q3⟩
            · intro ax wx vx cx hj hgl hfr hd
              have f3 : ax.tmps.getD 3 undef = .pointer (some ⟨N, 0, none⟩) := (hfr 3 (by kernel_rfl)).trans rfl
              have e3 := (getD_form _ _).symm.trans f3
              exact .inl ⟨wanted_free rfl, OpDoes.run (v := .pointer (some ⟨N, 6, none⟩)) (w' := wx) (by unfold execOp; simp [go_sem, Act.eval, e3]) ⟨Below.refl _ _, rfl⟩⟩
            · intro ax wx vx hj hfr hd
              have f35 : ax.tmps.getD 35 undef = .pointer (some ⟨N, 6, none⟩) := hd 6 (by kernel_rfl) _ _ rfl rfl
              have e35 := (getD_form _ _).symm.trans f35
              have h34 : (fun u v _ => v[0]? = some u) (ax.tmps.getD 34 undef) vx wx := hd 5 (by kernel_rfl) _ _ rfl rfl
              obtain ⟨B', bc', ev, hp2⟩ := id hj
              have e34 : ax.tmps.getD 34 undef = .slice B' (j + 1) bc' := by
                rw [ev] at h34
                simpa using h34.symm
              refine ⟨wanted_free rfl, does_store_one 22 (.tmp 35) (.tmp 34) rfl N 6 f35 _ e34 sizeR1 rfl rfl 33 39 _ hp2.box (by omega) fun w' hrow hput => ?_⟩
              obtain ⟨q1, q2⟩ := PushJ.s2 HIL.out hj (by rw [ev]; rfl) hput hrow
              exact ⟨_, q1, q2, trivial⟩
          · intro us wx vx hj hf
            have HJX := Lib.hid hj
            clear hf hj
            simp only [fillSlots, List.setIfInBounds_toArray, List.set_cons_succ, List.set_cons_zero]
          -- DNE
            obtain ⟨B, bc, ev, hG3⟩ := HJX.out
            have HG3 := Lib.hid hG3
            clear hG3 ev
            go_wp2_with fail
            go_roundw
            case rel => exact ⟨j + 1, acc ++ [x], B, bc, s', by omega, by go_num, by rw [List.length_append, HAL.out]; rfl, HG3.out, HNX.out⟩
            case measure => simp [intOf]; omega
        · have HNX : Hid (r = ({ n1 with ids := acc }, s)) := Lib.hid (by
            rw [← HKK.out, HJ.out.2, idsRd_stop _ hs]
            simp)
          have hb0 : ((s.1 : Int) == 0) = false := beq_eq_false_iff_ne.2 (by omega)
          go_wp2_with (first
          | ((with_reducible refine gate 47 rfl ?_); go_loud (refine wpList_val rfl (load_node (.tmp 3) rfl rfl HJ.out.1.node) ?_))
          | ((with_reducible refine gate0 rfl ?_); (refine wpList_store_all rfl 33 (.tmp 2) (.tmp 47) rfl w.heap.size rfl _ rfl 39 sizeN _ (nd_agg ({ n1 with ids := acc }) A j pc) (fun i _ => ndF_one _ _ _ _ i) 33 _ (HJ.out.1.only.row HR1.out HNG.out) ?_; intro wy hry hpy; have HRY := Lib.hid hry; have HPY := Lib.hid hpy; clear hry hpy))
          | (go_at_call 46; go_loud ((with_reducible refine (HER.out).mono ?_); rintro e8 w8 ⟨rfl, rfl⟩)))
          refine ret_cell rfl w.heap.size rfl _ Try.underlying33 rfl 39 sizeN (ndF ({ n1 with ids := acc }) A j pc) (row_cells HRY.out) rfl (fun v hv => ?_)
          rw [nd_eq hv]
          exact HRB.out _ _ _ _ _ _ _ _ _ HJ.out.1 HPY.out rfl rfl HAL.out.symm HNX.out
      · obtain rfl : j = c := by omega
        have HNX : Hid (r = ({ n1 with ids := acc }, s)) := Lib.hid (by
          rw [← HKK.out, HJ.out.2, Nat.sub_self]
          simp [idsRd])
        go_wp2_with (first
          | ((with_reducible refine gate 47 rfl ?_); go_loud (refine wpList_val rfl (load_node (.tmp 3) rfl rfl HJ.out.1.node) ?_))
          | ((with_reducible refine gate0 rfl ?_); (refine wpList_store_all rfl 33 (.tmp 2) (.tmp 47) rfl w.heap.size rfl _ rfl 39 sizeN _ (nd_agg ({ n1 with ids := acc }) A j pc) (fun i _ => ndF_one _ _ _ _ i) 33 _ (HJ.out.1.only.row HR1.out HNG.out) ?_; intro wy hry hpy; have HRY := Lib.hid hry; have HPY := Lib.hid hpy; clear hry hpy)))
        refine ret_cell rfl w.heap.size rfl _ Try.underlying33 rfl 39 sizeN (ndF ({ n1 with ids := acc }) A j pc) (row_cells HRY.out) rfl (fun v hv => ?_)
        rw [nd_eq hv]
        exact HRB.out _ _ _ _ _ _ _ _ _ HJ.out.1 HPY.out rfl rfl HAL.out.symm HNX.out
  by_cases h1 : k = 1
  · subst h1
    rw [if_neg (by omega), if_pos (by omega)] at hkk
    clear hkd
    obtain ⟨⟨x, s5⟩, hx⟩ : ∃ r, idRd s4 = r := ⟨_, rfl⟩
    rw [hx] at hkk
    have HKK := Lib.hid hkk
    have HID := idK (base := b') (g := g) hx
    have HK0I := HK0.out.2
    have HIDS := Lib.hid HK0I
    clear hkk hx HK0 HK0I h0 HR HB4
    go_wp2_with (first
      | (go_at_call 57; go_loud ((with_reducible refine (HID.out _ HG.out.inn).mono ?_); rintro e8 w8 ⟨rfl, hin8, ho8⟩; have HG4 := Lib.hid (HG.out.turn HIL.out (s' := s5) hin8 ho8); clear hin8 ho8))
      | ((with_reducible refine gate0 rfl ?_); (refine wpList_store_agg rfl 24 (.tmp 41) (.tmp 40) rfl N 7 rfl _ rfl 32 sizeI _ (arrO_agg x) (fun i _ => rfl) 33 39 _ HG4.out.box (by omega) ?_; intro w9 hr9 hp9; have HG5 := Lib.hid (HG4.out.put HIL.out (n' := { n0 with tree := x }) hp9 (hr9.congr (tree_put n0 x none 0 0))); clear hr9 hp9))
      | ((with_reducible refine gate 47 rfl ?_); go_loud (refine wpList_val rfl (load_node (.tmp 3) rfl rfl HG5.out.node) ?_))
      | ((with_reducible refine gate0 rfl ?_); (refine wpList_store_all rfl 33 (.tmp 2) (.tmp 47) rfl w.heap.size rfl _ rfl 39 sizeN _ (nd_agg ({ n0 with tree := x }) none 0 0) (fun i _ => ndF_one _ _ _ _ i) 33 _ (HG5.out.only.row HR1.out HNG.out) ?_; intro wy hry hpy; have HRY := Lib.hid hry; have HPY := Lib.hid hpy; clear hry hpy)))
    refine ret_cell rfl w.heap.size rfl _ Try.underlying33 rfl 39 sizeN (ndF ({ n0 with tree := x }) none 0 0) (row_cells HRY.out) rfl (fun v hv => ?_)
    rw [nd_eq hv]
    exact HRB.out _ _ _ _ _ _ _ _ _ HG5.out HPY.out rfl HIDS.out.symm (by simp) HKK.out.symm
  by_cases h2 : k = 2
  · subst h2
    rw [if_neg (by omega), if_neg (by omega), if_pos (by omega)] at hkk
    clear hkd
    obtain ⟨⟨x, s5⟩, hx⟩ : ∃ r, textRd 4095 s4 = r := ⟨_, rfl⟩
    rw [hx] at hkk
    have HKK := Lib.hid hkk
    have HTX := textK (base := b') (g := g) (by omega) hx
    have HIDS := Lib.hid HK0.out.2
    clear hkk hx HK0 h0 h1 HR HB4
    go_wp2_with (first
      | (go_at_call 56; go_loud ((with_reducible refine (HTX.out _ HG.out.inn).mono ?_); rintro e8 w8 ⟨rfl, hin8, ho8⟩; have HG4 := Lib.hid (HG.out.turn HIL.out (s' := s5) hin8 ho8); clear hin8 ho8))
      | ((with_reducible refine gate0 rfl ?_); (refine wpList_store_one rfl 9 (.tmp 46) (.tmp 45) rfl N 5 rfl _ rfl sizeS1 rfl rfl 33 39 _ HG4.out.box (by omega) ?_; intro w9 hr9 hp9; have HG5 := Lib.hid (HG4.out.put HIL.out (n' := { n0 with target := strB x }) hp9 (hr9.congr (target_put n0 (strB x) none 0 0))); clear hr9 hp9))
      | ((with_reducible refine gate 47 rfl ?_); go_loud (refine wpList_val rfl (load_node (.tmp 3) rfl rfl HG5.out.node) ?_))
      | ((with_reducible refine gate0 rfl ?_); (refine wpList_store_all rfl 33 (.tmp 2) (.tmp 47) rfl w.heap.size rfl _ rfl 39 sizeN _ (nd_agg ({ n0 with target := strB x }) none 0 0) (fun i _ => ndF_one _ _ _ _ i) 33 _ (HG5.out.only.row HR1.out HNG.out) ?_; intro wy hry hpy; have HRY := Lib.hid hry; have HPY := Lib.hid hpy; clear hry hpy)))
    refine ret_cell rfl w.heap.size rfl _ Try.underlying33 rfl 39 sizeN (ndF ({ n0 with target := strB x }) none 0 0) (row_cells HRY.out) rfl (fun v hv => ?_)
    rw [nd_eq hv]
    exact HRB.out _ _ _ _ _ _ _ _ _ HG5.out HPY.out rfl HIDS.out.symm (by simp) HKK.out.symm
  · rw [if_neg (by omega), if_neg (by omega), if_neg (by omega)] at hkk
    clear hkd
    have HKK := Lib.hid hkk
    have HIDS := Lib.hid HK0.out.2
    have hb0 : ((k : Int) == 0) = false := beq_eq_false_iff_ne.2 (by omega)
    have hb1 : ((k : Int) == 1) = false := beq_eq_false_iff_ne.2 (by omega)
    have hb2 : ((k : Int) == 2) = false := beq_eq_false_iff_ne.2 (by omega)
    clear hkk HK0 HR HB4
    go_wp2_with (first
      | ((with_reducible refine gate 47 rfl ?_); go_loud (refine wpList_val rfl (load_node (.tmp 3) rfl rfl HG.out.node) ?_))
      | ((with_reducible refine gate0 rfl ?_); (refine wpList_store_all rfl 33 (.tmp 2) (.tmp 47) rfl w.heap.size rfl _ rfl 39 sizeN _ (nd_agg (n0) none 0 0) (fun i _ => ndF_one _ _ _ _ i) 33 _ (HG.out.only.row HR1.out HNG.out) ?_; intro wy hry hpy; have HRY := Lib.hid hry; have HPY := Lib.hid hpy; clear hry hpy)))
    refine ret_cell rfl w.heap.size rfl _ Try.underlying33 rfl 39 sizeN (ndF (n0) none 0 0) (row_cells HRY.out) rfl (fun v hv => ?_)
    rw [nd_eq hv]
    exact HRB.out _ _ _ _ _ _ _ _ _ HG.out HPY.out rfl HIDS.out.symm (by simp) HKK.out.symm
end

section
structure MadeR (base : Nat) (w : World) (T : TypeId) (v : Value) (outs : List NdIn) : Prop where
  own : w.ownsRow base T 39 v outs.length (ndsL outs)
  parts : ∀ z ∈ outs, z.pn = z.n.ids.length ∧ w.ownsRow base 24 32 (.slice z.A z.pn z.pc) z.pn (idsL z.n.ids) ∧ Far (.slice z.A z.pn z.pc) v
  apart : ∀ i j (hi : i < outs.length) (hj : j < outs.length), i < j → Far (.slice outs[i].A outs[i].pn outs[i].pc) (.slice outs[j].A outs[j].pn outs[j].pc)
section
variable {base g : Nat} {w w' w1 : World} {T : TypeId} {v v' : Value} {outs : List NdIn} {z : NdIn}
theorem MadeR.begin_ (base : Nat) (w : World) (T : TypeId) : MadeR base w T (.slice none 0 0) [] := ⟨World.ownsRow_nil _ _ _ _, by simp, fun i j hi => absurd hi (by simp)⟩
theorem MadeR.keep (h : MadeR base w T v outs) {S : Nat → Prop} (ho : Only S w w') (hS : ∀ k, S k → k < base) : MadeR base w' T v outs :=
  ⟨own_only h.own ho (fun k hk e => by have h1 := own_block h.own k hk; have h2 := hS k e; omega), fun y hy => ⟨(h.parts y hy).1, own_only (h.parts y hy).2.1 ho (fun k hk e => by have h1 := own_block (h.parts y hy).2.1 k hk; have h2 := hS k e; omega), (h.parts y hy).2.2⟩, h.apart⟩
theorem MadeR.q (h : MadeR base w T v outs) (hq : Q w w') : MadeR base w' T v outs := h.keep (S := fun _ => False) (Only.of_q hq) (fun _ h => h.elim)
theorem MadeR.push (h : MadeR base w T v outs) (hb : base ≤ w.heap.size) (hq : Only (fun k => k = g) w w1) (hg : g < base) (hz : z.pn = z.n.ids.length) (hown : w1.ownsRow w.heap.size 24 32 (.slice z.A z.pn z.pc) z.pn (idsL z.n.ids)) (hgr : Grew w1 w' v v')
    (hv : w'.ownsRow base T 39 v' (outs.length + 1) (ndsL outs ++ ndL z.n z.A z.pn z.pc)) : MadeR base w' T v' (outs ++ [z]) := by
  have h1 := h.keep hq (fun k hk => by omega)
  have hfz : Far (.slice z.A z.pn z.pc) v := fun k hk e => by
    have h2 := own_block hown k hk
    have h3 := own_lt h.own k e
    omega
  refine ⟨by simpa [ndsL] using hv, fun y hy => ?_, fun i j hi hj hij => ?_⟩
  · rcases List.mem_append.1 hy with hy | hy
    · obtain ⟨p1, p2, p3⟩ := h1.parts y hy
      exact ⟨p1, hgr.keeps p3.symm p2, (hgr.far p3.symm p2).symm⟩
    · obtain rfl := List.mem_singleton.1 hy
      exact ⟨hz, hgr.keeps hfz.symm (own_mono hown hb), (hgr.far hfz.symm (own_mono hown hb)).symm⟩
  · rw [List.length_append, List.length_singleton] at hi hj
    have hi' : i < outs.length := by omega
    rw [List.getElem_append_left hi']
    by_cases hj' : j < outs.length
    · rw [List.getElem_append_left hj']
      exact h1.apart i j hi' hj' hij
    · obtain rfl : j = outs.length := by omega
      rw [List.getElem_append_right (Nat.le_refl _)]
      simp only [Nat.sub_self, List.getElem_singleton]
      intro k hk e
      have h2 := own_lt (h.parts _ (List.getElem_mem hi')).2.1 k hk
      have h3 := own_block hown k e
      omega
theorem WasRead.fits {z : NdIn} (h : WasRead z.n) (hp : z.pn = z.n.ids.length) : Fits z :=
  ⟨⟨hp.symm, h.tree, by have := h.many; omega, by have := h.name; omega, by have := h.target; omega⟩, by have := h.many; omega, h.ids, h.treeb⟩
theorem MadeR.nodesAt (h : MadeR base w T v outs) (hr : ∀ z ∈ outs, WasRead z.n) : ∃ A c, v = .slice A outs.length c ∧ NodesAt w A outs := by
  have h1 := h.own
  obtain ⟨A, c, rfl⟩ := own_form h1
  exact ⟨A, c, rfl, (own_seesS h1).more fun b hb => hb.2, fun z hz => (own_seesS (h.parts z hz).2.1).more fun b hb => hb.2, fun z hz => (hr z hz).fits (h.parts z hz).1⟩
theorem MadeR.mono {b' : Nat} (h : MadeR base w T v outs) (hb : b' ≤ base) : MadeR b' w T v outs := ⟨own_mono h.own hb, fun z hz => ⟨(h.parts z hz).1, own_mono (h.parts z hz).2.1 hb, (h.parts z hz).2.2⟩, h.apart⟩
theorem MadeR.at_ (h : MadeR base w T v outs) (k : Nat) (hk : k < outs.length) : ∃ b o c, v = .slice (some ⟨b, o, none⟩) outs.length c ∧ b < w.heap.size ∧ NodeAt w b (o + k * 39) outs[k].n outs[k].A outs[k].pn outs[k].pc := by
  have h1 := h.own
  obtain ⟨A, c, rfl⟩ := own_form h1
  obtain ⟨b, o, rfl, hb, hc⟩ := own_seesS h1 (by intro e; have := ndsL_len outs; rw [e] at this; simp at this; omega)
  refine ⟨b, o, c, rfl, hb.2, fun i hi => ?_⟩
  rw [Nat.add_assoc]
  refine hc (k * 39 + i) _ ?_
  unfold ndsL
  rw [flat_at (size := 39) outs (fun z _ => ndL_len z.n z.A z.pn z.pc) k i hk hi, ndL_get _ _ _ _ _ hi]
end
/-- What decoding leaves. -/
def DecOut (T : TypeId) (w : World) (r : List Nd × Nat) (e_ : Ending) (w' : World) : Prop :=
  ∃ A c outs, e_ = .returned (.tuple #[.slice A outs.length c, .int .i64 (r.2 : Int)]) ∧ outs.map (·.n) = r.1 ∧ Hid (MadeR w.heap.size w' T (.slice A outs.length c) outs ∧ Q w w')
theorem decOut_none {T : TypeId} {w w' : World} (h : Q w w') : DecOut T w ([], 2) (.returned (.tuple #[.slice none 0 0, .int .i64 2])) w' :=
  ⟨none, 0, [], rfl, rfl, Lib.hid ⟨MadeR.begin_ _ _ _, h⟩⟩
theorem WasRead.noNd : WasRead noNd := ⟨by simp [Go.Proofs.Ytffenfhbiapefaa.noNd, ByteArray.size], by simp [Go.Proofs.Ytffenfhbiapefaa.noNd, ByteArray.size], noId_len, noId_byte, by simp [Go.Proofs.Ytffenfhbiapefaa.noNd], by simp [Go.Proofs.Ytffenfhbiapefaa.noNd], .inr rfl⟩
end
end Go.Proofs.Ytffenfhbiapefaa
