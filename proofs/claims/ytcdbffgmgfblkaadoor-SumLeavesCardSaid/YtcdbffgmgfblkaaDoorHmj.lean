/- SumLeaves. -/
import Derived.Test.YtcdbffgmgfblkaaDoorHmi
import Derived.Lib.LazyBuf
namespace Go.Proofs.YtcdbffgmgfblkaaDoor
set_option linter.unusedVariables false
set_option linter.unusedSimpArgs false
open Go.RowKit

theorem Put.refl (g : Nat) (w : World) : Put g w w := ⟨rfl, rfl, rfl, rfl, fun _ _ => rfl⟩
theorem Put.setCells (g : Nat) : ∀ (vs : List Value) (o : Nat) (w : World), Put g w (w.setCells g o vs)
  | [], _, w => Put.refl g w
  | v :: r, o, w => by
    have h1 := Put.of_setCell w ⟨g, o, none⟩ v
    have h2 := Put.setCells g r (o + 1) (w.setCell ⟨g, o, none⟩ v)
    exact ⟨h2.os.trans h1.os, h2.tape.trans h1.tape, h2.output.trans h1.output, h2.size.trans h1.size, fun k hk => (h2.block k hk).trans (h1.block k hk)⟩
/-- A row of bytes and the noughts behind it. -/
def tailF (L : List Nat) (i : Nat) : Value := arrF L i
section
variable {P : Program} {w : World} {ops : Array Oper} {rest : List Oper} {o : Oper} {a : Act} {K : Exit → Act → World → Prop}
/-- append onto an empty row that has room: the noughts behind stay. -/
theorem wpList_append_in (hgd : o.guard = none) (s x : Operand) (t : TypeId)
    (ho : o.op = .call { callee := .builtin .append, args := #[s, x], argTypes := #[t, t] })
    (e : TypeId) (i : TypeInfo) (ht : P.underlying t = some (.slice e)) (hi : P.info? e = some i) (hsize : i.size = 1)
    (g cap : Nat) (hs : a.eval s = .slice (some ⟨g, 0, none⟩) 0 cap) (hr : w.rowIs g e cap (arrF []))
    (ok : Nat → Prop) (A : Option Addr) (m c : Nat) (L : List Nat) (hx : a.eval x = .slice A m c) (hA : A = none → c = 0) (hl : L.length = m) (hS : SeesP w ok A (L.map B8)) (hm : m ≤ cap) (hcap : cap ≤ maxLen)
    (h : ∀ w', w'.rowIs g e cap (arrF L) → Put g w w' → wpList P ops K rest (a.put o.dst (.slice (some ⟨g, 0, none⟩) m cap)) w') : wpList P ops K (o :: rest) a w := by
  subst hl
  rcases A with _ | ad
  · have hL : L = [] := by
      rcases Classical.em (L = []) with h | h
      · exact h
      · obtain ⟨b, o', e, _⟩ := hS (by simpa using h); cases e
    subst hL
    have hc := hA rfl
    subst hc
    obtain ⟨cur, hh, hcs, _⟩ := hr
    have hown : w.ownsRow 0 e 1 (.slice (some ⟨g, 0, none⟩) 0 cap) 0 [] := ⟨by simp, .inr ⟨g, cap, cur, rfl, Nat.zero_le _, hh, Nat.zero_le _, hcap, by simpa using hcs, by simp⟩⟩
    have e1 := run_append_owned_none (P := P) (w := w) 0 t o.type e i 1 ht hi _ 0 [] hown
    refine wpList_plain hgd fun K' hK => ?_
    unfold Oper.wp execOp
    simp only [ho, resolve, invoke, builtin, Sem.run_bind, Sem.run_pure, Result.andThen_ok, List.map_toArray, List.map_cons, List.map_nil, hs, hx, List.length_nil, e1]
    exact hK _ _ (h w ⟨cur, hh, hcs, by assumption⟩ (Put.refl g w))
  · have hc : ∀ j u, (L.map B8)[j]? = some u → w.cell? (ad.add j) = some u := fun j u hu => by
      obtain ⟨b, o', e, _, hc⟩ := hS.at_ hu
      injection e with e
      subst e
      rw [add_addr]; exact hc
    have e1 := run_append_room_cells (P := P) w t o.type e i ht hi g 0 0 cap ad L.length c (L.map B8) (by rw [List.length_map, hsize, Nat.mul_one]) hc (B8_one L) (by omega)
      (fun j hj => by simp only [Nat.zero_mul, Nat.zero_add]; rw [hr.cell (by rw [List.length_map] at hj; omega)]; rfl) (fun j _ => hr.frozen _)
    rw [Nat.zero_mul, Nat.zero_add, Nat.zero_add] at e1
    refine wpList_plain hgd fun K' hK => ?_
    unfold Oper.wp execOp
    simp only [ho, resolve, invoke, builtin, Sem.run_bind, Sem.run_pure, Result.andThen_ok, List.map_toArray, List.map_cons, List.map_nil, hs, hx, e1]
    refine hK _ _ (h _ ((rowIs_setCells (L.map B8) 0 w _ hr).congr fun j hj => ?_) (Put.setCells g _ 0 w))
    by_cases hjl : j < L.length
    · rw [if_pos ⟨Nat.zero_le _, by rw [List.length_map]; omega⟩, Nat.sub_zero, List.getElem?_map, List.getElem?_eq_getElem hjl]
      unfold arrF
      rw [List.getD_eq_getElem?_getD, List.getElem?_eq_getElem hjl]; rfl
    · rw [if_neg (by rw [List.length_map]; omega)]
      have h0 : L.getD j 0 = 0 := by rw [List.getD_eq_getElem?_getD, List.getElem?_eq_none (by omega)]; rfl
      unfold arrF
      rw [h0]; rfl
end
theorem makeCap (k : Nat) (hk : k ≤ 100000) (w : World) : (Instr.makeSlice 22 (.int .i64 0) (.int .i64 (k : Int))).run Tryd.prog w = .ok (.slice (some ⟨w.heap.size, 0, none⟩) 0 k) (w.alloc (.cells (madeCells #[.int .u8 0] k) 5)) := by
  obtain ⟨i8, hi8, hz80, hz81, hz82⟩ := info_parts info8
  have h := run_make (P := Tryd.prog) w 22 5 i8 (.int .u8 0) Tryd.underlying22 hi8 hz80 .i64 .i64 0 k (by omega) (by omega) (by rw [hz82]; omega) (by omega)
  rw [hz81, Nat.mul_one, Int.toNat_natCast] at h
  exact h
theorem made_arr (w : World) (k : Nat) : (w.alloc (.cells (madeCells #[.int .u8 0] k) 5)).rowIs w.heap.size 5 k (arrF []) := World.rowIs_made w (.int .u8 0) k 5
/-- A made row's bytes as they read. -/
theorem sees_row {w : World} {g cap m : Nat} {t : TypeId} {L : List Nat} {ok : Nat → Prop} (hr : w.rowIs g t cap (arrF L)) (hl : L.length = m) (hm : m ≤ cap) (hok : ok g) : SeesP w ok (some ⟨g, 0, none⟩) (L.map B8) := fun _ => by
  refine ⟨g, 0, rfl, hok, fun j u hu => ?_⟩
  have hj : j < m := by have := (List.getElem?_eq_some_iff.1 hu).1; rw [List.length_map] at this; omega
  rw [Nat.zero_add, hr.cell (by omega)]
  rw [List.getElem?_map, Option.map_eq_some_iff] at hu
  obtain ⟨x, hx, rfl⟩ := hu
  unfold arrF
  rw [List.getD_eq_getElem?_getD, hx]; rfl

set_option maxHeartbeats 8000000 in
set_option maxRecDepth 100000 in
theorem sumLeaves_walk (Ak : Option Addr) (nk ck mk : Nat) (K : List Nat) (A : Option Addr) (n c m : Nat) (L : List Nat) (w : World) (hG : Glob w) (hmk : mk = min nk 200) (hnk : nk ≤ ck) (hck : ck ≤ 9223372036854775807) (hlk : K.length = mk) (hsk : Sees w w.heap.size Ak (K.map B8)) (hbk : ∀ x ∈ K, x ≤ 255) (hAk : Ak = none → ck = 0)
    (hm : m = min n 3000) (hnc : n ≤ c) (hcm : c ≤ 9223372036854775807) (hl : L.length = m) (hs : Sees w w.heap.size A (L.map B8)) (hb : ∀ x ∈ L, x ≤ 255) (hA0 : A = none → c = 0) :
    Calls Tryd.prog 8 #[.slice Ak nk ck, .slice A n c] w fun e w' => e = .returned (.bool true) ∧ Below w.heap.size w w' := by
  obtain ⟨i8, hi8, hz80, hz81, hz82⟩ := info_parts info8
  have hby := Lib.hid (fun w => lawBytes A n c w hnc hcm)
  rw [← hm] at hby
  have f1 : (if (200 : Int) < (nk : Int) then 200 else (nk : Int)) = (mk : Int) := by split <;> omega
  have s1 := run_cut_hi (P := Tryd.prog) 22 5 Tryd.underlying22 i8 hi8 Ak nk ck .i64 mk (by omega)
  have hmk3 : mk ≤ 200 := by omega
  have hm3 : m ≤ 3000 := by omega
  have hmc : m ≤ c := by omega
  have HG := Lib.hid hG
  have HL := Lib.hid hl
  have HS := Lib.hid hs
  have HB := Lib.hid hb
  have HLK := Lib.hid hlk
  have HSK := Lib.hid hsk
  have HBK := Lib.hid hbk
  have HAK := Lib.hid hAk
  have HA0 := Lib.hid hA0
  clear hG hl hs hb hlk hsk hbk hAk hmk hm hA0
  go_enter Tryd.func8, Tryd.ntmps8
  go_wp2_with fail
  go_quiet ((go_at_call 14; (with_reducible exact quiet_same (hby.out _))))
  have HQ0 : Hid (Q w (w.drewN nq)) := (Q.refl w).drewN nq
  generalize w.drewN nq = wq at *
  clear f1 s1
  obtain ⟨kc, hkc⟩ : ∃ kc, kc = mk + 70 := ⟨_, rfl⟩
  obtain ⟨cc, hcc⟩ : ∃ cc, cc = m + 70 := ⟨_, rfl⟩
  have e1 : IntKind.i64.wrap ((mk : Int) + 70) = (kc : Int) := by rw [IntWalk.i64_in _ (by omega)]; omega
  have e2 : IntKind.i64.wrap ((m : Int) + 70) = (cc : Int) := by rw [IntWalk.i64_in _ (by omega)]; omega
  have hkc1 : mk ≤ kc := by omega
  have hcc1 : m ≤ cc := by omega
  have hkc2 : kc ≤ 100000 := by omega
  have hcc2 : cc ≤ 100000 := by omega
  have k1 := makeCap kc hkc2
  have k2 := makeCap cc hcc2
  obtain ⟨h2, hh2⟩ : ∃ h2, h2 = m / 2 := ⟨_, rfl⟩
  have e3 : (m : Int) / 2 = (h2 : Int) := by omega
  have hh2m : h2 ≤ m := by omega
  clear hkc hcc hh2
  have HKA : Hid (∀ (wx : World) (ga gb : Nat), Q w wx → wx.rowIs ga 5 kc (arrF K) → wx.rowIs gb 5 cc (arrF L) → Calls Tryd.prog 21 #[.slice (some ⟨ga, 0, none⟩) mk kc, .slice (some ⟨wx.heap.size, 0, none⟩) 3 3] (wx.alloc (.cells #[.slice (some ⟨gb, 0, none⟩) m cc, .slice (some ⟨gb, 0, none⟩) h2 cc, .slice (some ⟨gb, 0, none⟩) m cc] 22)) fun e w'' => e = .returned (.agg (arrO (hmac K (L ++ (L.take h2 ++ L))))) ∧ Hid (Q wx w'')) := fun wx ga gb hqx hra hrb => by
    have hq := (Q.refl wx).alloc (.cells #[.slice (some ⟨gb, 0, none⟩) m cc, .slice (some ⟨gb, 0, none⟩) h2 cc, .slice (some ⟨gb, 0, none⟩) m cc] 22)
    have hsb : SeesP wx (· < wx.heap.size) (some ⟨gb, 0, none⟩) (L.map B8) := sees_row hrb HL.out hcc1 hrb.lt
    have hsa : SeesP wx (· < wx.heap.size) (some ⟨ga, 0, none⟩) (K.map B8) := sees_row hra HLK.out hkc1 hra.lt
    have h := keyed_any (some ⟨ga, 0, none⟩) mk kc K (some ⟨wx.heap.size, 0, none⟩) 3 3 ([(Value.slice (some ⟨gb, 0, none⟩) m cc, L)] ++ ([(Value.slice (some ⟨gb, 0, none⟩) h2 cc, L.take h2)] ++ [(Value.slice (some ⟨gb, 0, none⟩) m cc, L)])) _ (HG.out.q (hqx.trans' hq)) HLK.out (hsa.on hq) HBK.out (fun h => by cases h) (new1 wx _ _) (fun h => by cases h) (((part_all hsb HL.out HB.out).append ((part_hi hsb HL.out HB.out hh2m).append (part_all hsb HL.out HB.out))).on hq) rfl (by omega) (by simp only [partsL, List.cons_append, List.nil_append, List.flatMap_cons, List.flatMap_nil, List.append_nil, List.length_append, List.length_take, HL.out]; omega) (by omega)
    simp only [partsL, List.cons_append, List.nil_append, List.flatMap_cons, List.flatMap_nil, List.append_nil] at h
    exact h.mono fun e w'' h => ⟨h.1, hq.trans' h.2.out⟩
  have HZ2 : Hid (((2 : Nat) : Int) = max (min (2 : Int) 100000) 0) := by show _ = _; omega
  have HYA : Hid (∀ (wx : World) (ga gb : Nat), Q w wx → wx.rowIs ga 5 kc (arrF K) → wx.rowIs gb 5 cc (arrF L) → Calls Tryd.prog 22 #[.slice (some ⟨ga, 0, none⟩) mk kc, .slice (some ⟨gb, 0, none⟩) m cc, .int .i64 2] wx fun e w'' => e = .returned (.agg (arrO (stretch K L 2))) ∧ Hid (Q wx w'')) := fun wx ga gb hqx hra hrb =>
    stretch_ok (some ⟨ga, 0, none⟩) mk kc K (some ⟨gb, 0, none⟩) m cc L 2 2 wx (HG.out.q hqx) HLK.out (sees_row hra HLK.out hkc1 hra.lt) HBK.out (fun h => by cases h) (by omega) HL.out (sees_row hrb HL.out hcc1 hrb.lt) HB.out (by omega) HZ2.out
  go_wp2_with (first
    | (refine gate 25 rfl ?_; go_loud (refine wpList_append_in rfl (.tmp 23) (.tmp 24) 22 rfl 5 i8 Tryd.underlying22 hi8 hz81 wq.heap.size kc rfl (made_arr wq kc) (· < w.heap.size) Ak mk ck K rfl HAK.out HLK.out (HSK.out.below (HQ0.out.alloc _)) hkc1 (by unfold maxLen; omega) ?_; intro w1 hr1 hp1; have H1 : Hid (w1.rowIs wq.heap.size 5 kc (arrF K) ∧ Q wq w1) := ⟨hr1, hp1.q ((Q.refl wq).alloc _) (Nat.le_refl _)⟩; clear hr1 hp1))
    | (refine gate 31 rfl ?_; go_loud (refine wpList_append_in rfl (.tmp 29) (.tmp 30) 22 rfl 5 i8 Tryd.underlying22 hi8 hz81 w1.heap.size cc rfl (made_arr w1 cc) (· < w.heap.size) A m c L rfl HA0.out HL.out (HS.out.below ((HQ0.out.trans' H1.out.2).alloc _)) hcc1 (by unfold maxLen; omega) ?_; intro w2 hr2 hp2; have H2 : Hid (w2.rowIs w1.heap.size 5 cc (arrF L) ∧ Q w1 w2) := ⟨hr2, hp2.q ((Q.refl w1).alloc _) (Nat.le_refl _)⟩; clear hr2 hp2; have HK3 := Lib.hid (HKA.out w2 wq.heap.size w1.heap.size (HQ0.out.trans' (H1.out.2.trans' H2.out.2)) (row_q H2.out.2 H1.out.1) H2.out.1)))
    | (go_at_call 21; (with_reducible refine HK3.out.mono ?_); rintro e w3 ⟨rfl, H3⟩; have HY3 := Lib.hid (HYA.out w3 wq.heap.size w1.heap.size ((HQ0.out.trans' (H1.out.2.trans' H2.out.2)).trans' H3.out) (row_q H3.out (row_q H2.out.2 H1.out.1)) (row_q H3.out H2.out.1)))
    | (go_at_call 22; (with_reducible refine HY3.out.mono ?_); rintro e w4 ⟨rfl, H4⟩)
    | (refine gate 7 rfl ?_; go_loud (refine wpList_alloc_row rfl 28 rfl _ (zero32 _) 32 _ rfl zer32_get ?_; intro w5 hr5 hx5; have H5 := Lib.hid (And.intro hr5 hx5); clear hr5 hx5))
    | (refine gate 8 rfl ?_; go_loud (refine wpList_alloc_row rfl 28 rfl _ (zero32 _) 32 _ rfl zer32_get ?_; intro w6 hr6 hx6; have H6 := Lib.hid (And.intro hr6 hx6); clear hr6 hx6))
    | (refine wpList_store_all rfl 28 (.tmp 7) (.tmp 41) rfl w4.heap.size rfl _ rfl 32 info32b _ (arrO_agg _) (fun i _ => rfl) 28 _ (H6.out.2.row H5.out.1) ?_; intro w7 hr7 hp7; have H7 := Lib.hid (And.intro hr7 hp7); clear hr7 hp7)
    | (refine wpList_store_all rfl 28 (.tmp 8) (.tmp 44) rfl w5.heap.size rfl _ rfl 32 info32b _ (arrO_agg _) (fun i _ => rfl) 28 _ (H7.out.2.row H6.out.1 (by have := H5.out.2.size; omega)) ?_; intro w8 hr8 hp8; have H8 := Lib.hid (And.intro hr8 hp8); clear hr8 hp8))
  have HQ4 : Hid (Q wq w4) := (H1.out.2.trans' (H2.out.2.trans' H3.out)).trans' H4.out
  have h45 : w4.heap.size < w5.heap.size := by have := H5.out.2.size; omega
  have HQ8 : Hid (Q w4 w8) := H8.out.2.q (H7.out.2.q (H6.out.2.q (H5.out.2.q (Q.refl _))) (Nat.le_refl _)) (Nat.le_of_lt h45)
  have HX8 : Hid (w8.rowIs w4.heap.size 28 32 (arrF (hmac K (L ++ (L.take h2 ++ L))))) := H8.out.2.row H7.out.1 (by omega)
  have HY8 : Hid (w8.rowIs w5.heap.size 28 32 (arrF (stretch K L 2))) := H8.out.1
  have HKR : Hid (w8.rowIs wq.heap.size 5 kc (arrF K)) := row_q ((H2.out.2.trans' H3.out).trans' (H4.out.trans' HQ8.out)) H1.out.1
  have HLR : Hid (w8.rowIs w1.heap.size 5 cc (arrF L)) := row_q (H3.out.trans' (H4.out.trans' HQ8.out)) H2.out.1
  have HQW : Hid (Q w w8) := HQ0.out.trans' (HQ4.out.trans' HQ8.out)
  have c1 := run_cut_hi (P := Tryd.prog) 22 5 Tryd.underlying22 i8 hi8 (some ⟨wq.heap.size, 0, none⟩) mk kc .i64 kc (Nat.le_refl _)
  have c2 := run_cut_hi (P := Tryd.prog) 22 5 Tryd.underlying22 i8 hi8 (some ⟨w1.heap.size, 0, none⟩) m cc .i64 cc (Nat.le_refl _)
  clear H1 H2 H3 H4 H5 H6 H7 H8 HK3 HY3 HQ4 HQ8 e1 e2 k1 k2 h45
  go_quiet (fail)
  have HQZ : Hid (Q w (w8.drewN nq)) := HQW.out.drewN nq
  have HX8 : Hid ((w8.drewN nq).rowIs w4.heap.size 28 32 (arrF (hmac K (L ++ (L.take h2 ++ L))))) := HX8.out
  have HY8 : Hid ((w8.drewN nq).rowIs w5.heap.size 28 32 (arrF (stretch K L 2))) := HY8.out
  have HKR : Hid ((w8.drewN nq).rowIs wq.heap.size 5 kc (arrF K)) := HKR.out
  have HLR : Hid ((w8.drewN nq).rowIs w1.heap.size 5 cc (arrF L)) := HLR.out
  generalize w8.drewN nq = wz at *
  clear c1 c2 HQW
  go_wp2_with fail
  go_loopw [11] (fun i wr => ∃ k : Nat, mk ≤ k ∧ k ≤ kc ∧ i = .int .i64 k ∧ wz = wr) (fun i _ => kc - (intOf i).toNat)
  case atStart => exact ⟨mk, Nat.le_refl _, hkc1, rfl, rfl⟩
  case round =>
    obtain ⟨k, hk1, hk, rfl, rfl⟩ := hrel
    by_cases hkc : k < kc
    · have ca := HKR.out.cell (i := k) hkc
      have h0 : K.getD k 0 = 0 := by rw [List.getD_eq_getElem?_getD, List.getElem?_eq_none (by rw [HLK.out]; exact hk1)]; rfl
      rw [arrF, h0] at ca
      unfold B8 at ca
      clear h0
      go_wp2_with fail
      go_roundw
      case rel => exact ⟨k + 1, by omega, by omega, by go_num, trivial⟩
      case measure => simp [intOf]; omega
    · have hkk : kc = k := by omega
      subst hkk
      go_wp2_with fail
      go_loopw [12] (fun i wr => ∃ k : Nat, m ≤ k ∧ k ≤ cc ∧ i = .int .i64 k ∧ wz = wr) (fun i _ => cc - (intOf i).toNat)
      case atStart => exact ⟨m, Nat.le_refl _, hcc1, rfl, rfl⟩
      case round =>
        obtain ⟨j, hj1, hj, rfl, rfl⟩ := hrel
        by_cases hjc : j < cc
        · have ca := HLR.out.cell (i := j) hjc
          have h0 : L.getD j 0 = 0 := by rw [List.getD_eq_getElem?_getD, List.getElem?_eq_none (by rw [HL.out]; exact hj1)]; rfl
          rw [arrF, h0] at ca
          unfold B8 at ca
          clear h0
          go_wp2_with fail
          go_roundw
          case rel => exact ⟨j + 1, by omega, by omega, by go_num, trivial⟩
          case measure => simp [intOf]; omega
        · go_wp2_with fail
          have e4 : IntKind.i64.wrap (h2 : Int) = (h2 : Int) := IntWalk.i64_in _ (by omega)
          have s9 := run_cut_hi (P := Tryd.prog) 22 5 Tryd.underlying22 i8 hi8 A m c .i64 h2 (by omega)
          have HKB : Hid (∀ (wx : World) (g : Nat), SeesP wx (· < wx.heap.size) (some ⟨g, 0, none⟩) [.slice A m c, .slice A h2 c, .slice A m c] → Q wz wx → Calls Tryd.prog 21 #[.slice Ak mk ck, .slice (some ⟨g, 0, none⟩) 3 3] wx fun e w'' => e = .returned (.agg (arrO (hmac K (L ++ (L.take h2 ++ L))))) ∧ Hid (Q wx w'')) := fun wx g hs hqx => by
            have hqz := HQZ.out.trans' hqx
            have hsb : SeesP wx (· < wx.heap.size) A (L.map B8) := SeesP.on HS.out hqz
            have h := keyed_any Ak mk ck K (some ⟨g, 0, none⟩) 3 3 ([(Value.slice A m c, L)] ++ ([(Value.slice A h2 c, L.take h2)] ++ [(Value.slice A m c, L)])) _ (HG.out.q hqz) HLK.out (SeesP.on HSK.out hqz) HBK.out HAK.out hs (fun h => by cases h) ((part_all hsb HL.out HB.out).append ((part_hi hsb HL.out HB.out hh2m).append (part_all hsb HL.out HB.out))) rfl (by omega) (by simp only [partsL, List.cons_append, List.nil_append, List.flatMap_cons, List.flatMap_nil, List.append_nil, List.length_append, List.length_take, HL.out]; omega) (by omega)
            simp only [partsL, List.cons_append, List.nil_append, List.flatMap_cons, List.flatMap_nil, List.append_nil] at h
            exact h
          have HYB : Hid (∀ (wx : World), Q wz wx → Calls Tryd.prog 22 #[.slice Ak mk ck, .slice A m c, .int .i64 2] wx fun e w'' => e = .returned (.agg (arrO (stretch K L 2))) ∧ Hid (Q wx w'')) := fun wx hqx =>
            stretch_ok Ak mk ck K A m c L 2 2 wx (HG.out.q (HQZ.out.trans' hqx)) HLK.out (SeesP.on HSK.out (HQZ.out.trans' hqx)) HBK.out HAK.out (by omega) HL.out (SeesP.on HS.out (HQZ.out.trans' hqx)) HB.out (by omega) HZ2.out
          have lx : (hmac K (L ++ (L.take h2 ++ L))).length = 32 := hmac_len _ _
          have ly : (stretch K L 2).length = 32 := stretch_len _ _ _
          clear HKA HYA
          generalize hmac K (L ++ (L.take h2 ++ L)) = X at *
          generalize stretch K L 2 = Y at *
          refine wp_region_facts (by kernel_rfl) (by kernel_rfl) (factsOf [.is (.bool true), .is (.bool true), .is (.slice (some ⟨wq.heap.size, 0, none⟩) mk kc), .is (.string (strB K)), .is (.slice Ak mk ck), .is (.string (strB K)), .is (.bool true), .is (.bool true), .is (.bool true), .is (.slice (some ⟨w1.heap.size, 0, none⟩) m cc), .is (.string (strB L)), .is (.slice A m c), .is (.string (strB L)), .is (.bool true), .is (.bool true), .is (.bool true), .is (.slice Ak mk ck), .is (.slice A m c), .is (.slice A m c), .is (.slice A m c), .is (.int .i64 (m : Int)), .is (.int .i64 (h2 : Int)), .is (.slice A h2 c), .is (.slice A m c), .row [.slice A m c, .slice A h2 c, .slice A m c], .is (.agg (arrO X)), .is (.agg (arrO X)), .is (.bool true), .is (.bool true), .is (.bool true), .is (.slice Ak mk ck), .is (.slice A m c), .is (.agg (arrO Y)), .is (.agg (arrO Y)), .is (.bool true), .is (.bool true), .is (.bool true)]) (factsOf_stays _) ?_ ?_
          · refine ⟨?_, ?_, ?_, ?_, ?_, ?_, ?_, ?_, ?_, ?_, ?_, ?_, ?_, ?_, ?_, ?_, ?_, ?_, ?_, ?_, ?_, ?_, ?_, ?_, ?_, ?_, ?_, ?_, ?_, ?_, ?_, ?_, ?_, ?_, ?_, ?_, ?_, trivial⟩
            · intro ax wx hq hfr hd
              exact .inl ⟨wanted_free rfl, OpDoes.call (f := 16) (args := #[]) (w' := wx) (by unfold execOp; simp [go_sem, Act.eval]) ((sums_ok wx (HG.out.q (HQZ.out.trans' hq))).mono fun e w2 h => ⟨_, h.1, h.2.out, rfl⟩)⟩
            · intro ax wx hq hfr hd
              have f79 : ax.tmps.getD 79 undef = .bool true := hd 0 (by kernel_rfl) _ _ rfl rfl
              have e79 := (getD_form _ _).symm.trans f79
              exact .inl ⟨wanted_free rfl, OpDoes.run (v := .bool true) (w' := wx) (by unfold execOp; simp only [Act.eval, f79, Sem.run_pure]) ⟨Below.refl _ _, rfl⟩⟩
            · intro ax wx hq hfr hd
              have f5 : ax.tmps.getD 5 undef = .slice (some ⟨wq.heap.size, 0, none⟩) mk kc := (hfr 5 (noDst_spec (by kernel_rfl))).trans rfl
              have e5 := (getD_form _ _).symm.trans f5
              exact .inl ⟨wanted_on rfl rfl rfl (hd 1 (by kernel_rfl) _ _ rfl rfl), OpDoes.run (v := .slice (some ⟨wq.heap.size, 0, none⟩) mk kc) (w' := wx) (by unfold execOp; simp only [Act.eval, f5, Sem.run_pure]) ⟨Below.refl _ _, rfl⟩⟩
            · intro ax wx hq hfr hd
              have f81 : ax.tmps.getD 81 undef = .slice (some ⟨wq.heap.size, 0, none⟩) mk kc := hd 2 (by kernel_rfl) _ _ rfl rfl
              have e81 := (getD_form _ _).symm.trans f81
              exact .inl ⟨wanted_on rfl rfl rfl (hd 1 (by kernel_rfl) _ _ rfl rfl), OpDoes.run (v := .string (strB K)) (w' := wx) (run_convert_op _ _ _ 22 9 5 (.tmp 81) rfl Tryd.underlying22 Tryd.underlying5 Tryd.underlying9 (some ⟨wq.heap.size, 0, none⟩) mk kc K f81 HLK.out (sees_row (row_q hq HKR.out) HLK.out hkc1 (row_q hq HKR.out).lt)) ⟨Below.refl _ _, rfl⟩⟩
            · intro ax wx hq hfr hd
              have f0 : ax.tmps.getD 0 undef = .slice Ak mk ck := (hfr 0 (noDst_spec (by kernel_rfl))).trans rfl
              have e0 := (getD_form _ _).symm.trans f0
              exact .inl ⟨wanted_on rfl rfl rfl (hd 1 (by kernel_rfl) _ _ rfl rfl), OpDoes.run (v := .slice Ak mk ck) (w' := wx) (by unfold execOp; simp only [Act.eval, f0, Sem.run_pure]) ⟨Below.refl _ _, rfl⟩⟩
            · intro ax wx hq hfr hd
              have f83 : ax.tmps.getD 83 undef = .slice Ak mk ck := hd 4 (by kernel_rfl) _ _ rfl rfl
              have e83 := (getD_form _ _).symm.trans f83
              exact .inl ⟨wanted_on rfl rfl rfl (hd 1 (by kernel_rfl) _ _ rfl rfl), OpDoes.run (v := .string (strB K)) (w' := wx) (run_convert_op _ _ _ 22 9 5 (.tmp 83) rfl Tryd.underlying22 Tryd.underlying5 Tryd.underlying9 (Ak) mk ck K f83 HLK.out (SeesP.on HSK.out (HQZ.out.trans' hq))) ⟨Below.refl _ _, rfl⟩⟩
            · intro ax wx hq hfr hd
              have f82 : ax.tmps.getD 82 undef = .string (strB K) := hd 3 (by kernel_rfl) _ _ rfl rfl
              have e82 := (getD_form _ _).symm.trans f82
              have f84 : ax.tmps.getD 84 undef = .string (strB K) := hd 5 (by kernel_rfl) _ _ rfl rfl
              have e84 := (getD_form _ _).symm.trans f84
              exact .inl ⟨wanted_on rfl rfl rfl (hd 1 (by kernel_rfl) _ _ rfl rfl), OpDoes.run (v := .bool true) (w' := wx) (by unfold execOp; simp [go_sem, Act.eval, e82, e84]) ⟨Below.refl _ _, rfl⟩⟩
            · intro ax wx hq hfr hd
              have f80 : ax.tmps.getD 80 undef = .bool true := hd 1 (by kernel_rfl) _ _ rfl rfl
              have e80 := (getD_form _ _).symm.trans f80
              have f85 : ax.tmps.getD 85 undef = .bool true := hd 6 (by kernel_rfl) _ _ rfl rfl
              have e85 := (getD_form _ _).symm.trans f85
              exact .inl ⟨wanted_free rfl, OpDoes.run (v := .bool true) (w' := wx) (by unfold execOp; simp [go_sem, Act.eval, e80, e85]) ⟨Below.refl _ _, rfl⟩⟩
            · intro ax wx hq hfr hd
              have f86 : ax.tmps.getD 86 undef = .bool true := hd 7 (by kernel_rfl) _ _ rfl rfl
              have e86 := (getD_form _ _).symm.trans f86
              exact .inl ⟨wanted_free rfl, OpDoes.run (v := .bool true) (w' := wx) (by unfold execOp; simp only [Act.eval, f86, Sem.run_pure]) ⟨Below.refl _ _, rfl⟩⟩
            · intro ax wx hq hfr hd
              have f6 : ax.tmps.getD 6 undef = .slice (some ⟨w1.heap.size, 0, none⟩) m cc := (hfr 6 (noDst_spec (by kernel_rfl))).trans rfl
              have e6 := (getD_form _ _).symm.trans f6
              exact .inl ⟨wanted_on rfl rfl rfl (hd 8 (by kernel_rfl) _ _ rfl rfl), OpDoes.run (v := .slice (some ⟨w1.heap.size, 0, none⟩) m cc) (w' := wx) (by unfold execOp; simp only [Act.eval, f6, Sem.run_pure]) ⟨Below.refl _ _, rfl⟩⟩
            · intro ax wx hq hfr hd
              have f88 : ax.tmps.getD 88 undef = .slice (some ⟨w1.heap.size, 0, none⟩) m cc := hd 9 (by kernel_rfl) _ _ rfl rfl
              have e88 := (getD_form _ _).symm.trans f88
              exact .inl ⟨wanted_on rfl rfl rfl (hd 8 (by kernel_rfl) _ _ rfl rfl), OpDoes.run (v := .string (strB L)) (w' := wx) (run_convert_op _ _ _ 22 9 5 (.tmp 88) rfl Tryd.underlying22 Tryd.underlying5 Tryd.underlying9 (some ⟨w1.heap.size, 0, none⟩) m cc L f88 HL.out (sees_row (row_q hq HLR.out) HL.out hcc1 (row_q hq HLR.out).lt)) ⟨Below.refl _ _, rfl⟩⟩
            · intro ax wx hq hfr hd
              have f1 : ax.tmps.getD 1 undef = .slice A m c := (hfr 1 (noDst_spec (by kernel_rfl))).trans rfl
              have e1 := (getD_form _ _).symm.trans f1
              exact .inl ⟨wanted_on rfl rfl rfl (hd 8 (by kernel_rfl) _ _ rfl rfl), OpDoes.run (v := .slice A m c) (w' := wx) (by unfold execOp; simp only [Act.eval, f1, Sem.run_pure]) ⟨Below.refl _ _, rfl⟩⟩
            · intro ax wx hq hfr hd
              have f90 : ax.tmps.getD 90 undef = .slice A m c := hd 11 (by kernel_rfl) _ _ rfl rfl
              have e90 := (getD_form _ _).symm.trans f90
              exact .inl ⟨wanted_on rfl rfl rfl (hd 8 (by kernel_rfl) _ _ rfl rfl), OpDoes.run (v := .string (strB L)) (w' := wx) (run_convert_op _ _ _ 22 9 5 (.tmp 90) rfl Tryd.underlying22 Tryd.underlying5 Tryd.underlying9 (A) m c L f90 HL.out (SeesP.on HS.out (HQZ.out.trans' hq))) ⟨Below.refl _ _, rfl⟩⟩
            · intro ax wx hq hfr hd
              have f89 : ax.tmps.getD 89 undef = .string (strB L) := hd 10 (by kernel_rfl) _ _ rfl rfl
              have e89 := (getD_form _ _).symm.trans f89
              have f91 : ax.tmps.getD 91 undef = .string (strB L) := hd 12 (by kernel_rfl) _ _ rfl rfl
              have e91 := (getD_form _ _).symm.trans f91
              exact .inl ⟨wanted_on rfl rfl rfl (hd 8 (by kernel_rfl) _ _ rfl rfl), OpDoes.run (v := .bool true) (w' := wx) (by unfold execOp; simp [go_sem, Act.eval, e89, e91]) ⟨Below.refl _ _, rfl⟩⟩
            · intro ax wx hq hfr hd
              have f87 : ax.tmps.getD 87 undef = .bool true := hd 8 (by kernel_rfl) _ _ rfl rfl
              have e87 := (getD_form _ _).symm.trans f87
              have f92 : ax.tmps.getD 92 undef = .bool true := hd 13 (by kernel_rfl) _ _ rfl rfl
              have e92 := (getD_form _ _).symm.trans f92
              exact .inl ⟨wanted_free rfl, OpDoes.run (v := .bool true) (w' := wx) (by unfold execOp; simp [go_sem, Act.eval, e87, e92]) ⟨Below.refl _ _, rfl⟩⟩
            · intro ax wx hq hfr hd
              have f93 : ax.tmps.getD 93 undef = .bool true := hd 14 (by kernel_rfl) _ _ rfl rfl
              have e93 := (getD_form _ _).symm.trans f93
              exact .inl ⟨wanted_free rfl, OpDoes.run (v := .bool true) (w' := wx) (by unfold execOp; simp only [Act.eval, f93, Sem.run_pure]) ⟨Below.refl _ _, rfl⟩⟩
            · intro ax wx hq hfr hd
              have f0 : ax.tmps.getD 0 undef = .slice Ak mk ck := (hfr 0 (noDst_spec (by kernel_rfl))).trans rfl
              have e0 := (getD_form _ _).symm.trans f0
              exact .inl ⟨wanted_on rfl rfl rfl (hd 15 (by kernel_rfl) _ _ rfl rfl), OpDoes.run (v := .slice Ak mk ck) (w' := wx) (by unfold execOp; simp only [Act.eval, f0, Sem.run_pure]) ⟨Below.refl _ _, rfl⟩⟩
            · intro ax wx hq hfr hd
              have f1 : ax.tmps.getD 1 undef = .slice A m c := (hfr 1 (noDst_spec (by kernel_rfl))).trans rfl
              have e1 := (getD_form _ _).symm.trans f1
              exact .inl ⟨wanted_on rfl rfl rfl (hd 15 (by kernel_rfl) _ _ rfl rfl), OpDoes.run (v := .slice A m c) (w' := wx) (by unfold execOp; simp only [Act.eval, f1, Sem.run_pure]) ⟨Below.refl _ _, rfl⟩⟩
            · intro ax wx hq hfr hd
              have f1 : ax.tmps.getD 1 undef = .slice A m c := (hfr 1 (noDst_spec (by kernel_rfl))).trans rfl
              have e1 := (getD_form _ _).symm.trans f1
              exact .inl ⟨wanted_on rfl rfl rfl (hd 15 (by kernel_rfl) _ _ rfl rfl), OpDoes.run (v := .slice A m c) (w' := wx) (by unfold execOp; simp only [Act.eval, f1, Sem.run_pure]) ⟨Below.refl _ _, rfl⟩⟩
            · intro ax wx hq hfr hd
              have f1 : ax.tmps.getD 1 undef = .slice A m c := (hfr 1 (noDst_spec (by kernel_rfl))).trans rfl
              have e1 := (getD_form _ _).symm.trans f1
              exact .inl ⟨wanted_on rfl rfl rfl (hd 15 (by kernel_rfl) _ _ rfl rfl), OpDoes.run (v := .slice A m c) (w' := wx) (by unfold execOp; simp only [Act.eval, f1, Sem.run_pure]) ⟨Below.refl _ _, rfl⟩⟩
            · intro ax wx hq hfr hd
              have f98 : ax.tmps.getD 98 undef = .slice A m c := hd 19 (by kernel_rfl) _ _ rfl rfl
              have e98 := (getD_form _ _).symm.trans f98
              exact .inl ⟨wanted_on rfl rfl rfl (hd 15 (by kernel_rfl) _ _ rfl rfl), OpDoes.run (v := .int .i64 (m : Int)) (w' := wx) (by unfold execOp; simp [go_sem, Act.eval, e98]) ⟨Below.refl _ _, rfl⟩⟩
            · intro ax wx hq hfr hd
              have f99 : ax.tmps.getD 99 undef = .int .i64 (m : Int) := hd 20 (by kernel_rfl) _ _ rfl rfl
              have e99 := (getD_form _ _).symm.trans f99
              exact .inl ⟨wanted_on rfl rfl rfl (hd 15 (by kernel_rfl) _ _ rfl rfl), OpDoes.run (v := .int .i64 (h2 : Int)) (w' := wx) (by unfold execOp; simp [go_sem, Act.eval, e99, e3, e4]) ⟨Below.refl _ _, rfl⟩⟩
            · intro ax wx hq hfr hd
              have f97 : ax.tmps.getD 97 undef = .slice A m c := hd 18 (by kernel_rfl) _ _ rfl rfl
              have e97 := (getD_form _ _).symm.trans f97
              have f100 : ax.tmps.getD 100 undef = .int .i64 (h2 : Int) := hd 21 (by kernel_rfl) _ _ rfl rfl
              have e100 := (getD_form _ _).symm.trans f100
              exact .inl ⟨wanted_on rfl rfl rfl (hd 15 (by kernel_rfl) _ _ rfl rfl), OpDoes.run (v := .slice A h2 c) (w' := wx) (by unfold execOp; simp [go_sem, Act.eval, e97, e100, s9]) ⟨Below.refl _ _, rfl⟩⟩
            · intro ax wx hq hfr hd
              have f1 : ax.tmps.getD 1 undef = .slice A m c := (hfr 1 (noDst_spec (by kernel_rfl))).trans rfl
              have e1 := (getD_form _ _).symm.trans f1
              exact .inl ⟨wanted_on rfl rfl rfl (hd 15 (by kernel_rfl) _ _ rfl rfl), OpDoes.run (v := .slice A m c) (w' := wx) (by unfold execOp; simp only [Act.eval, f1, Sem.run_pure]) ⟨Below.refl _ _, rfl⟩⟩
            · intro ax wx hq hfr hd
              have f96 : ax.tmps.getD 96 undef = .slice A m c := hd 17 (by kernel_rfl) _ _ rfl rfl
              have e96 := (getD_form _ _).symm.trans f96
              have f101 : ax.tmps.getD 101 undef = .slice A h2 c := hd 22 (by kernel_rfl) _ _ rfl rfl
              have e101 := (getD_form _ _).symm.trans f101
              have f102 : ax.tmps.getD 102 undef = .slice A m c := hd 23 (by kernel_rfl) _ _ rfl rfl
              have e102 := (getD_form _ _).symm.trans f102
              exact .inl ⟨wanted_on rfl rfl rfl (hd 15 (by kernel_rfl) _ _ rfl rfl), OpDoes.run (v := .slice (some ⟨wx.heap.size, 0, none⟩) 3 3) (w' := wx.alloc (.cells #[.slice A m c, .slice A h2 c, .slice A m c] 22)) (by unfold execOp; simp [go_sem, Act.eval, e96, e101, e102]) ⟨(Q.refl wx).alloc _, ⟨_, rfl, new1 wx [.slice A m c, .slice A h2 c, .slice A m c] _⟩⟩⟩
            · intro ax wx hq hfr hd
              have f95 : ax.tmps.getD 95 undef = .slice Ak mk ck := hd 16 (by kernel_rfl) _ _ rfl rfl
              have e95 := (getD_form _ _).symm.trans f95
              obtain ⟨g103, f103, r103⟩ : ∃ g, ax.tmps.getD 103 undef = .slice (some ⟨g, 0, none⟩) 3 3 ∧ SeesP wx (· < wx.heap.size) (some ⟨g, 0, none⟩) [.slice A m c, .slice A h2 c, .slice A m c] := hd 24 (by kernel_rfl) _ _ rfl rfl
              have e103 := (getD_form _ _).symm.trans f103
              exact .inl ⟨wanted_on rfl rfl rfl (hd 15 (by kernel_rfl) _ _ rfl rfl), OpDoes.call (f := 21) (args := #[.slice Ak mk ck, .slice (some ⟨g103, 0, none⟩) 3 3]) (w' := wx) (by unfold execOp; simp [go_sem, Act.eval, e95, e103]) ((HKB.out wx _ r103 hq).mono fun e w2 h => ⟨_, h.1, h.2.out, rfl⟩)⟩
            · intro ax wx hq hfr hd
              have f7 : ax.tmps.getD 7 undef = .pointer (some ⟨w4.heap.size, 0, none⟩) := (hfr 7 (noDst_spec (by kernel_rfl))).trans rfl
              have e7 := (getD_form _ _).symm.trans f7
              exact .inl ⟨wanted_on rfl rfl rfl (hd 15 (by kernel_rfl) _ _ rfl rfl), OpDoes.run (v := .agg (arrO X)) (w' := wx) (exec_load_agg 28 (.tmp 7) rfl w4.heap.size 0 f7 _ Tryd.underlying28 rfl 32 info32b (arrF X) (row_cells (row_q hq HX8.out))) ⟨Below.refl _ _, rfl⟩⟩
            · intro ax wx hq hfr hd
              have f104 : ax.tmps.getD 104 undef = .agg (arrO X) := hd 25 (by kernel_rfl) _ _ rfl rfl
              have e104 := (getD_form _ _).symm.trans f104
              have f105 : ax.tmps.getD 105 undef = .agg (arrO X) := hd 26 (by kernel_rfl) _ _ rfl rfl
              have e105 := (getD_form _ _).symm.trans f105
              exact .inl ⟨wanted_on rfl rfl rfl (hd 15 (by kernel_rfl) _ _ rfl rfl), OpDoes.run (v := .bool true) (w' := wx) (run_eq_same _ X lx _ _ _ _ rfl f104 f105 _) ⟨Below.refl _ _, rfl⟩⟩
            · intro ax wx hq hfr hd
              have f94 : ax.tmps.getD 94 undef = .bool true := hd 15 (by kernel_rfl) _ _ rfl rfl
              have e94 := (getD_form _ _).symm.trans f94
              have f106 : ax.tmps.getD 106 undef = .bool true := hd 27 (by kernel_rfl) _ _ rfl rfl
              have e106 := (getD_form _ _).symm.trans f106
              exact .inl ⟨wanted_free rfl, OpDoes.run (v := .bool true) (w' := wx) (by unfold execOp; simp [go_sem, Act.eval, e94, e106]) ⟨Below.refl _ _, rfl⟩⟩
            · intro ax wx hq hfr hd
              have f107 : ax.tmps.getD 107 undef = .bool true := hd 28 (by kernel_rfl) _ _ rfl rfl
              have e107 := (getD_form _ _).symm.trans f107
              exact .inl ⟨wanted_free rfl, OpDoes.run (v := .bool true) (w' := wx) (by unfold execOp; simp only [Act.eval, f107, Sem.run_pure]) ⟨Below.refl _ _, rfl⟩⟩
            · intro ax wx hq hfr hd
              have f0 : ax.tmps.getD 0 undef = .slice Ak mk ck := (hfr 0 (noDst_spec (by kernel_rfl))).trans rfl
              have e0 := (getD_form _ _).symm.trans f0
              exact .inl ⟨wanted_on rfl rfl rfl (hd 29 (by kernel_rfl) _ _ rfl rfl), OpDoes.run (v := .slice Ak mk ck) (w' := wx) (by unfold execOp; simp only [Act.eval, f0, Sem.run_pure]) ⟨Below.refl _ _, rfl⟩⟩
            · intro ax wx hq hfr hd
              have f1 : ax.tmps.getD 1 undef = .slice A m c := (hfr 1 (noDst_spec (by kernel_rfl))).trans rfl
              have e1 := (getD_form _ _).symm.trans f1
              exact .inl ⟨wanted_on rfl rfl rfl (hd 29 (by kernel_rfl) _ _ rfl rfl), OpDoes.run (v := .slice A m c) (w' := wx) (by unfold execOp; simp only [Act.eval, f1, Sem.run_pure]) ⟨Below.refl _ _, rfl⟩⟩
            · intro ax wx hq hfr hd
              have f109 : ax.tmps.getD 109 undef = .slice Ak mk ck := hd 30 (by kernel_rfl) _ _ rfl rfl
              have e109 := (getD_form _ _).symm.trans f109
              have f110 : ax.tmps.getD 110 undef = .slice A m c := hd 31 (by kernel_rfl) _ _ rfl rfl
              have e110 := (getD_form _ _).symm.trans f110
              exact .inl ⟨wanted_on rfl rfl rfl (hd 29 (by kernel_rfl) _ _ rfl rfl), OpDoes.call (f := 22) (args := #[.slice Ak mk ck, .slice A m c, .int .i64 2]) (w' := wx) (by unfold execOp; simp [go_sem, Act.eval, e109, e110]) ((HYB.out wx hq).mono fun e w2 h => ⟨_, h.1, h.2.out, rfl⟩)⟩
            · intro ax wx hq hfr hd
              have f8 : ax.tmps.getD 8 undef = .pointer (some ⟨w5.heap.size, 0, none⟩) := (hfr 8 (noDst_spec (by kernel_rfl))).trans rfl
              have e8 := (getD_form _ _).symm.trans f8
              exact .inl ⟨wanted_on rfl rfl rfl (hd 29 (by kernel_rfl) _ _ rfl rfl), OpDoes.run (v := .agg (arrO Y)) (w' := wx) (exec_load_agg 28 (.tmp 8) rfl w5.heap.size 0 f8 _ Tryd.underlying28 rfl 32 info32b (arrF Y) (row_cells (row_q hq HY8.out))) ⟨Below.refl _ _, rfl⟩⟩
            · intro ax wx hq hfr hd
              have f111 : ax.tmps.getD 111 undef = .agg (arrO Y) := hd 32 (by kernel_rfl) _ _ rfl rfl
              have e111 := (getD_form _ _).symm.trans f111
              have f112 : ax.tmps.getD 112 undef = .agg (arrO Y) := hd 33 (by kernel_rfl) _ _ rfl rfl
              have e112 := (getD_form _ _).symm.trans f112
              exact .inl ⟨wanted_on rfl rfl rfl (hd 29 (by kernel_rfl) _ _ rfl rfl), OpDoes.run (v := .bool true) (w' := wx) (run_eq_same _ Y ly _ _ _ _ rfl f111 f112 _) ⟨Below.refl _ _, rfl⟩⟩
            · intro ax wx hq hfr hd
              have f108 : ax.tmps.getD 108 undef = .bool true := hd 29 (by kernel_rfl) _ _ rfl rfl
              have e108 := (getD_form _ _).symm.trans f108
              have f113 : ax.tmps.getD 113 undef = .bool true := hd 34 (by kernel_rfl) _ _ rfl rfl
              have e113 := (getD_form _ _).symm.trans f113
              exact .inl ⟨wanted_free rfl, OpDoes.run (v := .bool true) (w' := wx) (by unfold execOp; simp [go_sem, Act.eval, e108, e113]) ⟨Below.refl _ _, rfl⟩⟩
            · intro ax wx hq hfr hd
              have f114 : ax.tmps.getD 114 undef = .bool true := hd 35 (by kernel_rfl) _ _ rfl rfl
              have e114 := (getD_form _ _).symm.trans f114
              exact .inl ⟨wanted_free rfl, OpDoes.run (v := .bool true) (w' := wx) (by unfold execOp; simp only [Act.eval, f114, Sem.run_pure]) ⟨Below.refl _ _, rfl⟩⟩
          · intro ax wx inv
            have f4 : ax.tmps.getD 4 undef = .bool true := inv.fact 36 _ _ rfl rfl (by simp)
            have hdf : ax.defers = [] := inv.defers
            have HQX : Hid (Q wz wx) := inv.q
            clear inv
            go_wp2_with fail
            refine bodyPost_ret (results_tmp rfl _ _ _) hdf ⟨?_, HQZ.out.trans' HQX.out⟩
            rw [f4]
theorem sumLeaves_true (Ak : Option Addr) (nk ck : Nat) (zk : List Int) (A : Option Addr) (n c : Nat) (zs : List Int) (w : World) (wk : IsRow .u8 w Ak nk ck zk) (w0 : IsRow .u8 w A n c zs) (hG : Glob w) :
    Calls Tryd.prog 8 #[.slice Ak nk ck, .slice A n c] w fun e w' => e = .returned (.bool true) ∧ Below w.heap.size w w' := by
  obtain ⟨h1, h2, h3, h4, h5, h6⟩ := row8 w0 (min n 3000) (by omega)
  obtain ⟨k1, k2, k3, k4, k5, k6⟩ := row8 wk (min nk 200) (by omega)
  exact sumLeaves_walk Ak nk ck _ _ A n c _ _ w hG rfl k4 k5 k1 k2 k3 k6 rfl h4 h5 h1 h2 h3 h6
end Go.Proofs.YtcdbffgmgfblkaaDoor
