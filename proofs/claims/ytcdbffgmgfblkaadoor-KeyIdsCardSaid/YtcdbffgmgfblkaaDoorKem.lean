/- Words for the walk through KeyIds: a tag, the rings that it makes. -/
import Derived.Test.YtcdbffgmgfblkaaDoorKel
import Derived.Deep.DeepCutAuto
import Derived.Test.YtcdbffgmgfblkaaDoorOpg
namespace Go.Proofs.YtcdbffgmgfblkaaDoor
set_option linter.unusedVariables false
set_option linter.unusedSimpArgs false
open Go.RowKit

section
theorem gate0 {P : Program} {w : World} {ops : Array Oper} {rest : List Oper} {o : Oper} {a : Act} {K : Exit → Act → World → Prop} (_hN : o.dst = none) (h : wpList P ops K (o :: rest) a w) : wpList P ops K (o :: rest) a w := h
/-- A tag's cells. -/
def tagC (N : List Nat) (x : Nat) (A : Option Addr) (n c : Nat) (t : Int) : Array Value := arrO N ++ #[.int .u8 (x : Int), .slice A n c, .int .i64 t]
def tagF (N : List Nat) (x : Nat) (A : Option Addr) (n c : Nat) (t : Int) (i : Nat) : Value := if i < 32 then arrF N i else if i = 32 then .int .u8 (x : Int) else if i = 33 then .slice A n c else .int .i64 t
theorem tag_agg (N : List Nat) (x : Nat) (A : Option Addr) (n c : Nat) (t : Int) : AggIs (.agg (tagC N x A n c t)) 35 (tagF N x A n c t) := by
  refine ⟨_, rfl, by unfold tagC; rw [Array.size_append, arrO_size]; rfl, fun i hi => ?_⟩
  unfold tagC tagF
  by_cases h : i < 32
  · rw [Array.getElem?_append_left (by rw [arrO_size]; exact h), if_pos h, arrO_get N h]
  · rw [Array.getElem?_append_right (by rw [arrO_size]; omega), arrO_size, if_neg h]
    rcases (show i = 32 ∨ i = 33 ∨ i = 34 by omega) with rfl | rfl | rfl <;> rfl
theorem tag_cells {w : World} {g : Nat} {ty : TypeId} {N : List Nat} {x : Nat} {A : Option Addr} {n c : Nat} {t : Int} (hr : w.rowIs g ty 35 (tagF N x A n c t)) : w.cell? ⟨g, 32, none⟩ = some (.int .u8 (x : Int)) ∧ w.cell? ⟨g, 33, none⟩ = some (.slice A n c) ∧ w.cell? ⟨g, 34, none⟩ = some (.int .i64 t) ∧ ∀ i, i < 32 → w.cell? ⟨g, 0 + i, none⟩ = some (arrF N i) :=
  ⟨hr.cell (i := 32) (by omega), hr.cell (i := 33) (by omega), hr.cell (i := 34) (by omega), fun i hi => by rw [hr.cell (by omega), Nat.zero_add]; unfold tagF; rw [if_pos hi]⟩
theorem fillName (N : List Nat) : Instr.fill (fun i => (#[(0, 64), (64, 32)] : Array (Nat × Nat))[i]?) (Value.agg (ringC Z32 Z32 Z32)).cells [(1, .agg (arrO N))] = some (ringC Z32 Z32 N) := by kernel_rfl
theorem fillBoth (h m N : List Nat) : Instr.fill (fun i => (#[(0, 64), (64, 32)] : Array (Nat × Nat))[i]?) (Value.agg (ringC Z32 Z32 Z32)).cells [(1, .agg (arrO N)), (0, .agg (arrO h ++ arrO m))] = some (ringC h m N) := by kernel_rfl
def L9 : List Nat := 9 :: List.replicate 31 0
def L8 : List Nat := 8 :: List.replicate 31 0
theorem run_b9 (op : Oper) (ρ : Operand → Value) (w : World) (ho : op.op = .build 28 #[(0, .const (.int .u8 9))]) (h : ρ (.const (.int .u8 9)) = .int .u8 9) : (execOp ρ op).run Tryd.prog w = .ok (.value (.agg (arrO L9))) w := by
  have h1 : (Instr.build 28 #[(0, .int .u8 9)]).run Tryd.prog w = .ok (.agg (arrO L9)) w := by kernel_rfl
  unfold execOp
  simp only [ho, List.map_toArray, List.map_cons, List.map_nil, h, Sem.run_bind, h1, Result.andThen_ok, Sem.run_pure]
theorem run_b8 (op : Oper) (ρ : Operand → Value) (w : World) (ho : op.op = .build 28 #[(0, .const (.int .u8 8))]) (h : ρ (.const (.int .u8 8)) = .int .u8 8) : (execOp ρ op).run Tryd.prog w = .ok (.value (.agg (arrO L8))) w := by
  have h1 : (Instr.build 28 #[(0, .int .u8 8)]).run Tryd.prog w = .ok (.agg (arrO L8)) w := by kernel_rfl
  unfold execOp
  simp only [ho, List.map_toArray, List.map_cons, List.map_nil, h, Sem.run_bind, h1, Result.andThen_ok, Sem.run_pure]
theorem eq_sameI (L : List Nat) (w : World) : (Op.equalIn 10000 58 (.agg (arrO L)) (.agg (arrO L))).run Tryd.prog w = .ok true w := by
  obtain ⟨i8, hi8, hz80, hz81, hz82⟩ := info_parts info8
  have hc : Tryd.prog.cellsOf 5 = 1 := by kernel_rfl
  have h1 := run_equalIn_array w 9999 (arrO L) (arrO L) Tryd.underlying58 hi8
  have h2 := eqItems_bytes L L 9998 w (List.range 32) (fun i hi => List.mem_range.1 hi)
  rw [hc] at h1
  refine (h1.trans h2).trans (congrArg (fun b => Result.ok b w) ?_)
  rw [List.all_eq_true]
  intro i _
  exact beq_self_eq_true _
theorem run_eq_sameI (op : Oper) (L : List Nat) (ρ : Operand → Value) (x y : Operand) (t : TypeId) (ho : op.op = .binOp .eql 58 x y t) (hx : ρ x = .agg (arrO L)) (hy : ρ y = .agg (arrO L)) (w : World) : (execOp ρ op).run Tryd.prog w = .ok (.value (.bool true)) w := by
  have h1 : (eqGuard .eql 58 x y (.agg (arrO L)) (.agg (arrO L))).run Tryd.prog w = .ok () w := run_eqGuard_agg w .eql 58 x y (arrO L) (arrO L) (by kernel_rfl)
  have h2 : (binOp .eql 58 (.agg (arrO L)) (.agg (arrO L))).run Tryd.prog w = .ok (.bool true) w := by
    rw [run_eql_struct, eq_sameI L w]; rfl
  unfold execOp
  simp only [ho, hx, hy, Sem.run_bind, h1, Result.andThen_ok, h2, Sem.run_pure]
end

section
set_option maxHeartbeats 8000000 in
set_option maxRecDepth 100000 in
theorem keyIds_core (l9 l8 : List Nat) (HB9 : Hid (∀ (op : Oper) (ρ : Operand → Value) (w : World), op.op = .build 28 #[(0, .const (.int .u8 9))] → ρ (.const (.int .u8 9)) = .int .u8 9 → (execOp ρ op).run Tryd.prog w = .ok (.value (.agg (arrO l9))) w))
    (HB8 : Hid (∀ (op : Oper) (ρ : Operand → Value) (w : World), op.op = .build 28 #[(0, .const (.int .u8 8))] → ρ (.const (.int .u8 8)) = .int .u8 8 → (execOp ρ op).run Tryd.prog w = .ok (.value (.agg (arrO l8))) w)) (N : List Nat) (x : Nat) (A : Option Addr) (n c m : Nat) (L : List Nat) (t : Int) (w : World) (hG : Glob w) (hN : N.length = 32) (hbN : ∀ x ∈ N, x ≤ 255) (hx : x ≤ 255)
    (hm : m = min n 1000) (hnc : n ≤ c) (hcm : c ≤ 9223372036854775807) (hl : L.length = m) (hs : Sees w w.heap.size A (L.map B8)) (hb : ∀ x ∈ L, x ≤ 255) :
    Calls Tryd.prog 11 #[.agg (tagC N x A n c t)] w fun e w' => e = .returned (.bool true) ∧ Below w.heap.size w w' := by
  obtain ⟨i8, hi8, hz80, hz81, hz82⟩ := info_parts info8
  have f1 : (if (1000 : Int) < (n : Int) then 1000 else (n : Int)) = (m : Int) := by split <;> omega
  have f2 : min (n : Int) 1000 = (m : Int) := by omega
  have s1 := run_cut_hi (P := Tryd.prog) 22 5 Tryd.underlying22 i8 hi8 A n c .i64 m (by omega)
  have hm3 : m ≤ 1000 := by omega
  have hmc : m ≤ c := by omega
  have HG := Lib.hid hG
  have HL := Lib.hid hl
  have HS := Lib.hid hs
  have HB := Lib.hid hb
  have HN := Lib.hid hN
  have HBN := Lib.hid hbN
  clear hG hl hs hb hm hN hbN
  obtain ⟨u1, hu1, hu1'⟩ := wrap_u64 t
  have d : ((m : Int) + 1 == 0) = false := beq_eq_false_iff_ne.2 (by omega)
  have e0 : IntKind.i64.wrap ((m : Int) + 1) = (m : Int) + 1 := IntWalk.i64_in _ (by omega)
  obtain ⟨i, g1, g2, him⟩ := one_cut u1 m (by omega)
  have HG1 := Lib.hid g1
  have HG2 := Lib.hid g2
  clear hu1' g1 g2
  have he0 := Lib.hid e0
  have HDI := Lib.hid (fun wx => docId_ok Z32 Z32 N x L wx hx HN.out HBN.out HB.out (by rw [HL.out]; omega))
  have s2 := run_cut_hi (P := Tryd.prog) 22 5 Tryd.underlying22 i8 hi8 A m c .i64 i (by omega)
  obtain ⟨B, HBc⟩ : ∃ B, Hid (B = cutA A c i 1) := ⟨_, Lib.hid rfl⟩
  have s3 := run_cut_lo (P := Tryd.prog) 22 5 Tryd.underlying22 i8 hi8 hz81 A m c .i64 i him B HBc.out
  have HS2 := Lib.hid s2
  have HS3 := Lib.hid s3
  clear s2 s3
  have HI1 := Lib.hid (fun (wx : World) (g : Nat) (hr : SeesP wx (· < wx.heap.size) (some ⟨g, 0, none⟩) [Value.slice A m c]) (hq : Q w wx) => (show Calls Tryd.prog 32 #[.agg (ringC Z32 Z32 N), .int .u8 (x : Int), .slice (some ⟨g, 0, none⟩) 1 1] wx fun e w' => e = .returned (.agg (arrO (hmac N (x :: L)))) ∧ Hid (Q wx w') from by
    have h := id_ok Z32 Z32 N x (some ⟨g, 0, none⟩) 1 1 [(.slice A m c, L)] wx (HG.out.q hq) hx HN.out HBN.out rfl hr ((part_all HS.out HL.out HB.out).on hq) (by omega) (by simp [partsL, HL.out]; omega) (by omega)
    simpa [partsL] using h))
  have HI2 := Lib.hid (fun (wx : World) (g : Nat) (hr : SeesP wx (· < wx.heap.size) (some ⟨g, 0, none⟩) [Value.slice A i c, Value.slice B (m - i) (c - i)]) (hq : Q w wx) => (show Calls Tryd.prog 32 #[.agg (ringC Z32 Z32 N), .int .u8 (x : Int), .slice (some ⟨g, 0, none⟩) 2 2] wx fun e w' => e = .returned (.agg (arrO (hmac N (x :: L)))) ∧ Hid (Q wx w') from by
    have h := id_ok Z32 Z32 N x (some ⟨g, 0, none⟩) 2 2 ([(Value.slice A i c, L.take i)] ++ [(Value.slice B (m - i) (c - i), L.drop i)] : List (Value × List Nat)) wx (HG.out.q hq) hx HN.out HBN.out rfl hr (((part_hi HS.out HL.out HB.out him).append (part_lo HS.out HL.out HB.out hmc HBc.out)).on hq) (by omega) (by simp [partsL, HL.out]; omega) (by omega)
    simpa [partsL] using h))
  have HI3 := Lib.hid (fun (wx : World) (g : Nat) (hr : SeesP wx (· < wx.heap.size) (some ⟨g, 0, none⟩) [Value.slice none 0 0, Value.slice A m c]) (hq : Q w wx) => (show Calls Tryd.prog 32 #[.agg (ringC l9 l8 N), .int .u8 (x : Int), .slice (some ⟨g, 0, none⟩) 2 2] wx fun e w' => e = .returned (.agg (arrO (hmac N (x :: L)))) ∧ Hid (Q wx w') from by
    have h := id_ok l9 l8 N x (some ⟨g, 0, none⟩) 2 2 ([(Value.slice none 0 0, ([] : List Nat))] ++ [(Value.slice A m c, L)] : List (Value × List Nat)) wx (HG.out.q hq) hx HN.out HBN.out rfl hr (((part_nil w _).append (part_all HS.out HL.out HB.out)).on hq) (by omega) (by simp [partsL, HL.out]; omega) (by omega)
    simpa [partsL] using h))
  go_enter Tryd.func11, Tryd.ntmps11
  go_upto_region 3 with (refine gate 1 rfl ?_; refine wpList_box_row rfl 57 (.tmp 0) rfl _ rfl 35 _ (tag_agg N x A n c t) ?_; intro w1 hr1 hx1; have H1 := Lib.hid (And.intro hr1 (hx1.q (Q.refl _))); have HT1 := Lib.hid (tag_cells hr1); have c32 := HT1.out.1; have c33 := HT1.out.2.1; have c34 := HT1.out.2.2.1; clear hr1 hx1)
  rw [HG1.out, HG2.out]
  clear c33 c34 HG1 HG2 f1 f2 s1 d e0 he0 hu1
  go_upto_region 4 with (first
    | (refine gate 25 rfl ?_; refine wpList_run_u rfl (load_part 0 (.tmp 24) rfl rfl HT1.out.2.2.2) ?_)
    | (refine gate 26 rfl ?_; go_loud (refine wpList_build_struct rfl 46 _ rfl _ (zeroR _) _ Tryd.underlying46 _ (placesRing _ _ Tryd.underlying46) [(1, .agg (arrO N))] rfl (ringC Z32 Z32 N) (fillName N) ?_))
    | (refine gate 5 rfl ?_; go_loud (refine wpList_alloc_row rfl 46 rfl _ (zeroR _) 96 (ringF Z32 Z32 Z32) (ringC_size _ _ _) (ringC_get _ _ _) ?_; intro w2 hr2 hx2; have H2 := Lib.hid (And.intro hr2 (hx2.q (Q.refl _))); clear hr2 hx2))
    | (refine wpList_store_all rfl 46 (.tmp 5) (.tmp 26) rfl w1.heap.size rfl _ rfl 96 info96 _ (ring_agg Z32 Z32 N) (fun i _ => ring_one _ _ _ i) 46 _ H2.out.1 ?_; intro w3 hr3 hp3; have H3 : Hid (w3.rowIs w1.heap.size 46 96 (ringF Z32 Z32 N) ∧ Q w1 w3) := ⟨hr3, hp3.q H2.out.2 (Nat.le_refl _)⟩; have HT3 := Lib.hid (tag_cells (row_q H3.out.2 H1.out.1)); clear hr3 hp3 c32))
  go_upto_region 6 with (first
    | ((with_reducible refine gate 28 rfl ?_); refine wpList_run_u rfl (load_part 0 (.tmp 27) rfl rfl HT3.out.2.2.2) ?_; simp only [Act.put, List.setIfInBounds_toArray, List.set_cons_succ, List.set_cons_zero])
    | ((with_reducible refine gate 29 rfl ?_); refine wpList_run_u rfl (HB9.out _ _ _ rfl rfl) ?_; simp only [Act.put, List.setIfInBounds_toArray, List.set_cons_succ, List.set_cons_zero])
    | ((with_reducible refine gate 30 rfl ?_); refine wpList_run_u rfl (HB8.out _ _ _ rfl rfl) ?_; simp only [Act.put, List.setIfInBounds_toArray, List.set_cons_succ, List.set_cons_zero])
    | ((with_reducible refine gate 31 rfl ?_); go_loud (refine wpList_build_struct rfl 44 _ rfl _ (zeroK _) _ Tryd.underlying44 _ (placesKeys _ _ Tryd.underlying44) [(0, .agg (arrO l9)), (1, .agg (arrO l8))] rfl (arrO l9 ++ arrO l8) (fillKeys l9 l8) ?_); simp only [Act.put, List.setIfInBounds_toArray, List.set_cons_succ, List.set_cons_zero])
    | ((with_reducible refine gate 32 rfl ?_); go_loud (refine wpList_build_struct rfl 46 _ rfl _ (zeroR _) _ Tryd.underlying46 _ (placesRing _ _ Tryd.underlying46) [(1, .agg (arrO N)), (0, .agg (arrO l9 ++ arrO l8))] rfl (ringC l9 l8 N) (fillBoth l9 l8 N) ?_); simp only [Act.put, List.setIfInBounds_toArray, List.set_cons_succ, List.set_cons_zero])
    | ((with_reducible refine gate 6 rfl ?_); go_loud (refine wpList_alloc_row rfl 46 rfl _ (zeroR _) 96 (ringF Z32 Z32 Z32) (ringC_size _ _ _) (ringC_get _ _ _) ?_; intro w4 hr4 hx4; have H4 := Lib.hid (And.intro hr4 (hx4.q (Q.refl _))); clear hr4 hx4); simp only [Act.put, List.setIfInBounds_toArray, List.set_cons_succ, List.set_cons_zero])
    | ((with_reducible refine gate0 rfl ?_); refine wpList_store_all rfl 46 (.tmp 6) (.tmp 32) rfl w3.heap.size rfl _ rfl 96 info96 _ (ring_agg l9 l8 N) (fun i _ => ring_one _ _ _ i) 46 _ H4.out.1 ?_; intro w5 hr5 hp5; have H5 : Hid (w5.rowIs w3.heap.size 46 96 (ringF l9 l8 N) ∧ Q w3 w5) := ⟨hr5, hp5.q H4.out.2 (Nat.le_refl _)⟩; have HT5 := Lib.hid (tag_cells (row_q H5.out.2 (row_q H3.out.2 H1.out.1))); have c32 := HT5.out.1; clear hr5 hp5)
    | ((with_reducible refine gate 34 rfl ?_); refine wpList_run_u rfl (load_part 0 (.tmp 33) rfl rfl HT5.out.2.2.2) ?_; simp only [Act.put, List.setIfInBounds_toArray, List.set_cons_succ, List.set_cons_zero])
    | ((with_reducible refine gate 35 rfl ?_); go_loud (refine wpList_build_struct rfl 52 _ rfl _ (zeroR2 _) _ Tryd.underlying52 _ (placesRing2 _ _ Tryd.underlying52) [(1, .agg (arrO N))] rfl (ringC Z32 Z32 N) (fillName N) ?_); simp only [Act.put, List.setIfInBounds_toArray, List.set_cons_succ, List.set_cons_zero])
    | ((with_reducible refine gate 39 rfl ?_); go_loud (refine wpList_convert_sees rfl 22 9 5 (.tmp 38) rfl Tryd.underlying22 Tryd.underlying5 Tryd.underlying9 _ A m c L rfl HL.out (HS.out.below (H1.out.2.trans' (H3.out.2.trans' H5.out.2))) ?_); simp only [Act.put, List.setIfInBounds_toArray, List.set_cons_succ, List.set_cons_zero])
    | (go_at_call 31; (with_reducible refine (HDI.out _).mono ?_); rintro e w6 ⟨rfl, H6⟩)
    | ((with_reducible refine gate 7 rfl ?_); go_loud (refine wpList_alloc_row rfl 58 rfl _ (zeroI _) 32 _ rfl zer32_get ?_; intro w7 hr7 hx7; have H7 := Lib.hid (And.intro hr7 (hx7.q (Q.refl _))); clear hr7 hx7); simp only [Act.put, List.setIfInBounds_toArray, List.set_cons_succ, List.set_cons_zero])
    | ((with_reducible refine gate0 rfl ?_); refine wpList_store_all rfl 58 (.tmp 7) (.tmp 40) rfl w6.heap.size rfl _ rfl 32 infoI _ (arrO_agg _) (fun i _ => rfl) 58 _ H7.out.1 ?_; intro w8 hr8 hp8; have H8 : Hid (w8.rowIs w6.heap.size 58 32 (arrF (hmac N (x :: L))) ∧ Q w6 w8) := ⟨hr8, hp8.q H7.out.2 (Nat.le_refl _)⟩; clear hr8 hp8))
  have HQ5 : Hid (Q w w5) := Lib.hid (H1.out.2.trans' (H3.out.2.trans' H5.out.2))
  have HQ8 : Hid (Q w w8) := Lib.hid (HQ5.out.trans' (H6.out.trans' H8.out.2))
  have HTG : Hid (w8.rowIs w.heap.size 57 35 (tagF N x A n c t)) := Lib.hid (row_q (H3.out.2.trans' (H5.out.2.trans' (H6.out.trans' H8.out.2))) H1.out.1)
  have HA : Hid (w8.rowIs w1.heap.size 46 96 (ringF Z32 Z32 N)) := Lib.hid (row_q (H5.out.2.trans' (H6.out.trans' H8.out.2)) H3.out.1)
  have HO : Hid (w8.rowIs w3.heap.size 46 96 (ringF l9 l8 N)) := Lib.hid (row_q (H6.out.trans' H8.out.2) H5.out.1)
  have HV := Lib.hid H8.out.1
  clear c32 H1 H2 H3 H4 H5 H6 H7 H8 HT1 HT3 HT5 HDI HB9 HB8
  have s2 := HS2.out
  have s3 := HS3.out
  -- REGION
  refine wp_region_facts (by kernel_rfl) (by kernel_rfl) (factsOf [.is (.bool true), .is (.bool true), .is (.agg (ringC Z32 Z32 N)), .is (.pointer (some ⟨w.heap.size, 32, none⟩)), .is (.int .u8 (x : Int)), .is (.slice A m c), .row [.slice A m c], .is (.agg (arrO (hmac N (x :: L)))), .is (.agg (arrO (hmac N (x :: L)))), .is (.bool true), .is (.bool true), .is (.bool true), .is (.agg (ringC Z32 Z32 N)), .is (.pointer (some ⟨w.heap.size, 32, none⟩)), .is (.int .u8 (x : Int)), .is (.slice A m c), .is (.int .i64 (i : Int)), .is (.slice A i c), .is (.slice A m c), .is (.int .i64 (i : Int)), .is (.slice B (m - i) (c - i)), .row [.slice A i c, .slice B (m - i) (c - i)], .is (.agg (arrO (hmac N (x :: L)))), .is (.agg (arrO (hmac N (x :: L)))), .is (.bool true), .is (.bool true), .is (.bool true), .is (.agg (ringC l9 l8 N)), .is (.pointer (some ⟨w.heap.size, 32, none⟩)), .is (.int .u8 (x : Int)), .is (.slice A m c), .row [.slice none 0 0, .slice A m c], .is (.agg (arrO (hmac N (x :: L)))), .is (.agg (arrO (hmac N (x :: L)))), .is (.bool true), .is (.bool true), .is (.bool true)]) (factsOf_stays _) ?_ ?_
  · refine ⟨?_, ?_, ?_, ?_, ?_, ?_, ?_, ?_, ?_, ?_, ?_, ?_, ?_, ?_, ?_, ?_, ?_, ?_, ?_, ?_, ?_, ?_, ?_, ?_, ?_, ?_, ?_, ?_, ?_, ?_, ?_, ?_, ?_, ?_, ?_, ?_, ?_, trivial⟩
    · intro ax wx hq hfr hd
      exact .inl ⟨wanted_free rfl, OpDoes.call (f := 29) (args := #[]) (w' := wx) (by unfold execOp; simp [go_sem, Act.eval]) ((rings_ok wx (HG.out.q (HQ8.out.trans' hq))).mono fun e w2 h => ⟨_, h.1, h.2.out, rfl⟩)⟩
    · intro ax wx hq hfr hd
      have f41 : ax.tmps.getD 41 undef = .bool true := hd 0 (by kernel_rfl) _ _ rfl rfl
      have e41 := (getD_form _ _).symm.trans f41
      exact .inl ⟨wanted_free rfl, OpDoes.run (v := .bool true) (w' := wx) (by unfold execOp; simp only [Act.eval, f41, Sem.run_pure]) ⟨Below.refl _ _, rfl⟩⟩
    · intro ax wx hq hfr hd
      have f5 : ax.tmps.getD 5 undef = .pointer (some ⟨w1.heap.size, 0, none⟩) := (hfr 5 (noDst_spec (by kernel_rfl))).trans rfl
      have e5 := (getD_form _ _).symm.trans f5
      exact .inl ⟨wanted_on rfl rfl rfl (hd 1 (by kernel_rfl) _ _ rfl rfl), OpDoes.run (v := .agg (ringC Z32 Z32 N)) (w' := wx) (load_ringA (.tmp 5) rfl f5 (row_q hq HA.out)) ⟨Below.refl _ _, rfl⟩⟩
    · intro ax wx hq hfr hd
      have f1 : ax.tmps.getD 1 undef = .pointer (some ⟨w.heap.size, 0, none⟩) := (hfr 1 (noDst_spec (by kernel_rfl))).trans rfl
      have e1 := (getD_form _ _).symm.trans f1
      exact .inl ⟨wanted_on rfl rfl rfl (hd 1 (by kernel_rfl) _ _ rfl rfl), OpDoes.run (v := .pointer (some ⟨w.heap.size, 32, none⟩)) (w' := wx) (by unfold execOp; simp [go_sem, Act.eval, e1]) ⟨Below.refl _ _, rfl⟩⟩
    · intro ax wx hq hfr hd
      have f44 : ax.tmps.getD 44 undef = .pointer (some ⟨w.heap.size, 32, none⟩) := hd 3 (by kernel_rfl) _ _ rfl rfl
      have e44 := (getD_form _ _).symm.trans f44
      have c32 := (tag_cells (row_q hq HTG.out)).1
      exact .inl ⟨wanted_on rfl rfl rfl (hd 1 (by kernel_rfl) _ _ rfl rfl), OpDoes.run (v := .int .u8 (x : Int)) (w' := wx) (by unfold execOp; simp [go_sem, Act.eval, e44, c32]) ⟨Below.refl _ _, rfl⟩⟩
    · intro ax wx hq hfr hd
      have f3 : ax.tmps.getD 3 undef = .slice A m c := (hfr 3 (noDst_spec (by kernel_rfl))).trans rfl
      have e3 := (getD_form _ _).symm.trans f3
      exact .inl ⟨wanted_on rfl rfl rfl (hd 1 (by kernel_rfl) _ _ rfl rfl), OpDoes.run (v := .slice A m c) (w' := wx) (by unfold execOp; simp only [Act.eval, f3, Sem.run_pure]) ⟨Below.refl _ _, rfl⟩⟩
    · intro ax wx hq hfr hd
      have f46 : ax.tmps.getD 46 undef = .slice A m c := hd 5 (by kernel_rfl) _ _ rfl rfl
      have e46 := (getD_form _ _).symm.trans f46
      exact .inl ⟨wanted_on rfl rfl rfl (hd 1 (by kernel_rfl) _ _ rfl rfl), OpDoes.run (v := .slice (some ⟨wx.heap.size, 0, none⟩) 1 1) (w' := wx.alloc (.cells #[.slice A m c] 22)) (by unfold execOp; simp [go_sem, Act.eval, e46]) ⟨(Q.refl wx).alloc _, ⟨_, rfl, new1 wx [.slice A m c] _⟩⟩⟩
    · intro ax wx hq hfr hd
      have f43 : ax.tmps.getD 43 undef = .agg (ringC Z32 Z32 N) := hd 2 (by kernel_rfl) _ _ rfl rfl
      have e43 := (getD_form _ _).symm.trans f43
      have f45 : ax.tmps.getD 45 undef = .int .u8 (x : Int) := hd 4 (by kernel_rfl) _ _ rfl rfl
      have e45 := (getD_form _ _).symm.trans f45
      obtain ⟨g47, f47, r47⟩ : ∃ g, ax.tmps.getD 47 undef = .slice (some ⟨g, 0, none⟩) 1 1 ∧ SeesP wx (· < wx.heap.size) (some ⟨g, 0, none⟩) [.slice A m c] := hd 6 (by kernel_rfl) _ _ rfl rfl
      have e47 := (getD_form _ _).symm.trans f47
      exact .inl ⟨wanted_on rfl rfl rfl (hd 1 (by kernel_rfl) _ _ rfl rfl), OpDoes.call (f := 32) (args := #[.agg (ringC Z32 Z32 N), .int .u8 (x : Int), .slice (some ⟨g47, 0, none⟩) 1 1]) (w' := wx) (by unfold execOp; simp [go_sem, Act.eval, e43, e45, e47]) ((HI1.out wx _ r47 (HQ8.out.trans' hq)).mono fun e w2 h => ⟨_, h.1, h.2.out, rfl⟩)⟩
    · intro ax wx hq hfr hd
      have f7 : ax.tmps.getD 7 undef = .pointer (some ⟨w6.heap.size, 0, none⟩) := (hfr 7 (noDst_spec (by kernel_rfl))).trans rfl
      have e7 := (getD_form _ _).symm.trans f7
      exact .inl ⟨wanted_on rfl rfl rfl (hd 1 (by kernel_rfl) _ _ rfl rfl), OpDoes.run (v := .agg (arrO (hmac N (x :: L)))) (w' := wx) (exec_load_agg 58 (.tmp 7) rfl w6.heap.size 0 f7 _ Tryd.underlying58 rfl 32 infoI _ (row_cells (row_q hq HV.out))) ⟨Below.refl _ _, rfl⟩⟩
    · intro ax wx hq hfr hd
      have f48 : ax.tmps.getD 48 undef = .agg (arrO (hmac N (x :: L))) := hd 7 (by kernel_rfl) _ _ rfl rfl
      have e48 := (getD_form _ _).symm.trans f48
      have f49 : ax.tmps.getD 49 undef = .agg (arrO (hmac N (x :: L))) := hd 8 (by kernel_rfl) _ _ rfl rfl
      have e49 := (getD_form _ _).symm.trans f49
      exact .inl ⟨wanted_on rfl rfl rfl (hd 1 (by kernel_rfl) _ _ rfl rfl), OpDoes.run (v := .bool true) (w' := wx) (run_eq_sameI _ _ _ _ _ _ rfl f48 f49 _) ⟨Below.refl _ _, rfl⟩⟩
    · intro ax wx hq hfr hd
      have f42 : ax.tmps.getD 42 undef = .bool true := hd 1 (by kernel_rfl) _ _ rfl rfl
      have e42 := (getD_form _ _).symm.trans f42
      have f50 : ax.tmps.getD 50 undef = .bool true := hd 9 (by kernel_rfl) _ _ rfl rfl
      have e50 := (getD_form _ _).symm.trans f50
      exact .inl ⟨wanted_free rfl, OpDoes.run (v := .bool true) (w' := wx) (by unfold execOp; simp [go_sem, Act.eval, e42, e50]) ⟨Below.refl _ _, rfl⟩⟩
    · intro ax wx hq hfr hd
      have f51 : ax.tmps.getD 51 undef = .bool true := hd 10 (by kernel_rfl) _ _ rfl rfl
      have e51 := (getD_form _ _).symm.trans f51
      exact .inl ⟨wanted_free rfl, OpDoes.run (v := .bool true) (w' := wx) (by unfold execOp; simp only [Act.eval, f51, Sem.run_pure]) ⟨Below.refl _ _, rfl⟩⟩
    · intro ax wx hq hfr hd
      have f5 : ax.tmps.getD 5 undef = .pointer (some ⟨w1.heap.size, 0, none⟩) := (hfr 5 (noDst_spec (by kernel_rfl))).trans rfl
      have e5 := (getD_form _ _).symm.trans f5
      exact .inl ⟨wanted_on rfl rfl rfl (hd 11 (by kernel_rfl) _ _ rfl rfl), OpDoes.run (v := .agg (ringC Z32 Z32 N)) (w' := wx) (load_ringA (.tmp 5) rfl f5 (row_q hq HA.out)) ⟨Below.refl _ _, rfl⟩⟩
    · intro ax wx hq hfr hd
      have f1 : ax.tmps.getD 1 undef = .pointer (some ⟨w.heap.size, 0, none⟩) := (hfr 1 (noDst_spec (by kernel_rfl))).trans rfl
      have e1 := (getD_form _ _).symm.trans f1
      exact .inl ⟨wanted_on rfl rfl rfl (hd 11 (by kernel_rfl) _ _ rfl rfl), OpDoes.run (v := .pointer (some ⟨w.heap.size, 32, none⟩)) (w' := wx) (by unfold execOp; simp [go_sem, Act.eval, e1]) ⟨Below.refl _ _, rfl⟩⟩
    · intro ax wx hq hfr hd
      have f54 : ax.tmps.getD 54 undef = .pointer (some ⟨w.heap.size, 32, none⟩) := hd 13 (by kernel_rfl) _ _ rfl rfl
      have e54 := (getD_form _ _).symm.trans f54
      have c32 := (tag_cells (row_q hq HTG.out)).1
      exact .inl ⟨wanted_on rfl rfl rfl (hd 11 (by kernel_rfl) _ _ rfl rfl), OpDoes.run (v := .int .u8 (x : Int)) (w' := wx) (by unfold execOp; simp [go_sem, Act.eval, e54, c32]) ⟨Below.refl _ _, rfl⟩⟩
    · intro ax wx hq hfr hd
      have f3 : ax.tmps.getD 3 undef = .slice A m c := (hfr 3 (noDst_spec (by kernel_rfl))).trans rfl
      have e3 := (getD_form _ _).symm.trans f3
      exact .inl ⟨wanted_on rfl rfl rfl (hd 11 (by kernel_rfl) _ _ rfl rfl), OpDoes.run (v := .slice A m c) (w' := wx) (by unfold execOp; simp only [Act.eval, f3, Sem.run_pure]) ⟨Below.refl _ _, rfl⟩⟩
    · intro ax wx hq hfr hd
      have f4 : ax.tmps.getD 4 undef = .int .i64 (i : Int) := (hfr 4 (noDst_spec (by kernel_rfl))).trans rfl
      have e4 := (getD_form _ _).symm.trans f4
      exact .inl ⟨wanted_on rfl rfl rfl (hd 11 (by kernel_rfl) _ _ rfl rfl), OpDoes.run (v := .int .i64 (i : Int)) (w' := wx) (by unfold execOp; simp only [Act.eval, f4, Sem.run_pure]) ⟨Below.refl _ _, rfl⟩⟩
    · intro ax wx hq hfr hd
      have f56 : ax.tmps.getD 56 undef = .slice A m c := hd 15 (by kernel_rfl) _ _ rfl rfl
      have e56 := (getD_form _ _).symm.trans f56
      have f57 : ax.tmps.getD 57 undef = .int .i64 (i : Int) := hd 16 (by kernel_rfl) _ _ rfl rfl
      have e57 := (getD_form _ _).symm.trans f57
      exact .inl ⟨wanted_on rfl rfl rfl (hd 11 (by kernel_rfl) _ _ rfl rfl), OpDoes.run (v := .slice A i c) (w' := wx) (by unfold execOp; simp [go_sem, Act.eval, e56, e57, s2]) ⟨Below.refl _ _, rfl⟩⟩
    · intro ax wx hq hfr hd
      have f3 : ax.tmps.getD 3 undef = .slice A m c := (hfr 3 (noDst_spec (by kernel_rfl))).trans rfl
      have e3 := (getD_form _ _).symm.trans f3
      exact .inl ⟨wanted_on rfl rfl rfl (hd 11 (by kernel_rfl) _ _ rfl rfl), OpDoes.run (v := .slice A m c) (w' := wx) (by unfold execOp; simp only [Act.eval, f3, Sem.run_pure]) ⟨Below.refl _ _, rfl⟩⟩
    · intro ax wx hq hfr hd
      have f4 : ax.tmps.getD 4 undef = .int .i64 (i : Int) := (hfr 4 (noDst_spec (by kernel_rfl))).trans rfl
      have e4 := (getD_form _ _).symm.trans f4
      exact .inl ⟨wanted_on rfl rfl rfl (hd 11 (by kernel_rfl) _ _ rfl rfl), OpDoes.run (v := .int .i64 (i : Int)) (w' := wx) (by unfold execOp; simp only [Act.eval, f4, Sem.run_pure]) ⟨Below.refl _ _, rfl⟩⟩
    · intro ax wx hq hfr hd
      have f59 : ax.tmps.getD 59 undef = .slice A m c := hd 18 (by kernel_rfl) _ _ rfl rfl
      have e59 := (getD_form _ _).symm.trans f59
      have f60 : ax.tmps.getD 60 undef = .int .i64 (i : Int) := hd 19 (by kernel_rfl) _ _ rfl rfl
      have e60 := (getD_form _ _).symm.trans f60
      exact .inl ⟨wanted_on rfl rfl rfl (hd 11 (by kernel_rfl) _ _ rfl rfl), OpDoes.run (v := .slice B (m - i) (c - i)) (w' := wx) (by unfold execOp; simp [go_sem, Act.eval, e59, e60, s3]) ⟨Below.refl _ _, rfl⟩⟩
    · intro ax wx hq hfr hd
      have f58 : ax.tmps.getD 58 undef = .slice A i c := hd 17 (by kernel_rfl) _ _ rfl rfl
      have e58 := (getD_form _ _).symm.trans f58
      have f61 : ax.tmps.getD 61 undef = .slice B (m - i) (c - i) := hd 20 (by kernel_rfl) _ _ rfl rfl
      have e61 := (getD_form _ _).symm.trans f61
      exact .inl ⟨wanted_on rfl rfl rfl (hd 11 (by kernel_rfl) _ _ rfl rfl), OpDoes.run (v := .slice (some ⟨wx.heap.size, 0, none⟩) 2 2) (w' := wx.alloc (.cells #[.slice A i c, .slice B (m - i) (c - i)] 22)) (by unfold execOp; simp [go_sem, Act.eval, e58, e61]) ⟨(Q.refl wx).alloc _, ⟨_, rfl, new1 wx [.slice A i c, .slice B (m - i) (c - i)] _⟩⟩⟩
    · intro ax wx hq hfr hd
      have f53 : ax.tmps.getD 53 undef = .agg (ringC Z32 Z32 N) := hd 12 (by kernel_rfl) _ _ rfl rfl
      have e53 := (getD_form _ _).symm.trans f53
      have f55 : ax.tmps.getD 55 undef = .int .u8 (x : Int) := hd 14 (by kernel_rfl) _ _ rfl rfl
      have e55 := (getD_form _ _).symm.trans f55
      obtain ⟨g62, f62, r62⟩ : ∃ g, ax.tmps.getD 62 undef = .slice (some ⟨g, 0, none⟩) 2 2 ∧ SeesP wx (· < wx.heap.size) (some ⟨g, 0, none⟩) [.slice A i c, .slice B (m - i) (c - i)] := hd 21 (by kernel_rfl) _ _ rfl rfl
      have e62 := (getD_form _ _).symm.trans f62
      exact .inl ⟨wanted_on rfl rfl rfl (hd 11 (by kernel_rfl) _ _ rfl rfl), OpDoes.call (f := 32) (args := #[.agg (ringC Z32 Z32 N), .int .u8 (x : Int), .slice (some ⟨g62, 0, none⟩) 2 2]) (w' := wx) (by unfold execOp; simp [go_sem, Act.eval, e53, e55, e62]) ((HI2.out wx _ r62 (HQ8.out.trans' hq)).mono fun e w2 h => ⟨_, h.1, h.2.out, rfl⟩)⟩
    · intro ax wx hq hfr hd
      have f7 : ax.tmps.getD 7 undef = .pointer (some ⟨w6.heap.size, 0, none⟩) := (hfr 7 (noDst_spec (by kernel_rfl))).trans rfl
      have e7 := (getD_form _ _).symm.trans f7
      exact .inl ⟨wanted_on rfl rfl rfl (hd 11 (by kernel_rfl) _ _ rfl rfl), OpDoes.run (v := .agg (arrO (hmac N (x :: L)))) (w' := wx) (exec_load_agg 58 (.tmp 7) rfl w6.heap.size 0 f7 _ Tryd.underlying58 rfl 32 infoI _ (row_cells (row_q hq HV.out))) ⟨Below.refl _ _, rfl⟩⟩
    · intro ax wx hq hfr hd
      have f63 : ax.tmps.getD 63 undef = .agg (arrO (hmac N (x :: L))) := hd 22 (by kernel_rfl) _ _ rfl rfl
      have e63 := (getD_form _ _).symm.trans f63
      have f64 : ax.tmps.getD 64 undef = .agg (arrO (hmac N (x :: L))) := hd 23 (by kernel_rfl) _ _ rfl rfl
      have e64 := (getD_form _ _).symm.trans f64
      exact .inl ⟨wanted_on rfl rfl rfl (hd 11 (by kernel_rfl) _ _ rfl rfl), OpDoes.run (v := .bool true) (w' := wx) (run_eq_sameI _ _ _ _ _ _ rfl f63 f64 _) ⟨Below.refl _ _, rfl⟩⟩
    · intro ax wx hq hfr hd
      have f52 : ax.tmps.getD 52 undef = .bool true := hd 11 (by kernel_rfl) _ _ rfl rfl
      have e52 := (getD_form _ _).symm.trans f52
      have f65 : ax.tmps.getD 65 undef = .bool true := hd 24 (by kernel_rfl) _ _ rfl rfl
      have e65 := (getD_form _ _).symm.trans f65
      exact .inl ⟨wanted_free rfl, OpDoes.run (v := .bool true) (w' := wx) (by unfold execOp; simp [go_sem, Act.eval, e52, e65]) ⟨Below.refl _ _, rfl⟩⟩
    · intro ax wx hq hfr hd
      have f66 : ax.tmps.getD 66 undef = .bool true := hd 25 (by kernel_rfl) _ _ rfl rfl
      have e66 := (getD_form _ _).symm.trans f66
      exact .inl ⟨wanted_free rfl, OpDoes.run (v := .bool true) (w' := wx) (by unfold execOp; simp only [Act.eval, f66, Sem.run_pure]) ⟨Below.refl _ _, rfl⟩⟩
    · intro ax wx hq hfr hd
      have f6 : ax.tmps.getD 6 undef = .pointer (some ⟨w3.heap.size, 0, none⟩) := (hfr 6 (noDst_spec (by kernel_rfl))).trans rfl
      have e6 := (getD_form _ _).symm.trans f6
      exact .inl ⟨wanted_on rfl rfl rfl (hd 26 (by kernel_rfl) _ _ rfl rfl), OpDoes.run (v := .agg (ringC l9 l8 N)) (w' := wx) (load_ringA (.tmp 6) rfl f6 (row_q hq HO.out)) ⟨Below.refl _ _, rfl⟩⟩
    · intro ax wx hq hfr hd
      have f1 : ax.tmps.getD 1 undef = .pointer (some ⟨w.heap.size, 0, none⟩) := (hfr 1 (noDst_spec (by kernel_rfl))).trans rfl
      have e1 := (getD_form _ _).symm.trans f1
      exact .inl ⟨wanted_on rfl rfl rfl (hd 26 (by kernel_rfl) _ _ rfl rfl), OpDoes.run (v := .pointer (some ⟨w.heap.size, 32, none⟩)) (w' := wx) (by unfold execOp; simp [go_sem, Act.eval, e1]) ⟨Below.refl _ _, rfl⟩⟩
    · intro ax wx hq hfr hd
      have f69 : ax.tmps.getD 69 undef = .pointer (some ⟨w.heap.size, 32, none⟩) := hd 28 (by kernel_rfl) _ _ rfl rfl
      have e69 := (getD_form _ _).symm.trans f69
      have c32 := (tag_cells (row_q hq HTG.out)).1
      exact .inl ⟨wanted_on rfl rfl rfl (hd 26 (by kernel_rfl) _ _ rfl rfl), OpDoes.run (v := .int .u8 (x : Int)) (w' := wx) (by unfold execOp; simp [go_sem, Act.eval, e69, c32]) ⟨Below.refl _ _, rfl⟩⟩
    · intro ax wx hq hfr hd
      have f3 : ax.tmps.getD 3 undef = .slice A m c := (hfr 3 (noDst_spec (by kernel_rfl))).trans rfl
      have e3 := (getD_form _ _).symm.trans f3
      exact .inl ⟨wanted_on rfl rfl rfl (hd 26 (by kernel_rfl) _ _ rfl rfl), OpDoes.run (v := .slice A m c) (w' := wx) (by unfold execOp; simp only [Act.eval, f3, Sem.run_pure]) ⟨Below.refl _ _, rfl⟩⟩
    · intro ax wx hq hfr hd
      have f71 : ax.tmps.getD 71 undef = .slice A m c := hd 30 (by kernel_rfl) _ _ rfl rfl
      have e71 := (getD_form _ _).symm.trans f71
      exact .inl ⟨wanted_on rfl rfl rfl (hd 26 (by kernel_rfl) _ _ rfl rfl), OpDoes.run (v := .slice (some ⟨wx.heap.size, 0, none⟩) 2 2) (w' := wx.alloc (.cells #[.slice none 0 0, .slice A m c] 22)) (by unfold execOp; simp [go_sem, Act.eval, e71]) ⟨(Q.refl wx).alloc _, ⟨_, rfl, new1 wx [.slice none 0 0, .slice A m c] _⟩⟩⟩
    · intro ax wx hq hfr hd
      have f68 : ax.tmps.getD 68 undef = .agg (ringC l9 l8 N) := hd 27 (by kernel_rfl) _ _ rfl rfl
      have e68 := (getD_form _ _).symm.trans f68
      have f70 : ax.tmps.getD 70 undef = .int .u8 (x : Int) := hd 29 (by kernel_rfl) _ _ rfl rfl
      have e70 := (getD_form _ _).symm.trans f70
      obtain ⟨g72, f72, r72⟩ : ∃ g, ax.tmps.getD 72 undef = .slice (some ⟨g, 0, none⟩) 2 2 ∧ SeesP wx (· < wx.heap.size) (some ⟨g, 0, none⟩) [.slice none 0 0, .slice A m c] := hd 31 (by kernel_rfl) _ _ rfl rfl
      have e72 := (getD_form _ _).symm.trans f72
      exact .inl ⟨wanted_on rfl rfl rfl (hd 26 (by kernel_rfl) _ _ rfl rfl), OpDoes.call (f := 32) (args := #[.agg (ringC l9 l8 N), .int .u8 (x : Int), .slice (some ⟨g72, 0, none⟩) 2 2]) (w' := wx) (by unfold execOp; simp [go_sem, Act.eval, e68, e70, e72]) ((HI3.out wx _ r72 (HQ8.out.trans' hq)).mono fun e w2 h => ⟨_, h.1, h.2.out, rfl⟩)⟩
    · intro ax wx hq hfr hd
      have f7 : ax.tmps.getD 7 undef = .pointer (some ⟨w6.heap.size, 0, none⟩) := (hfr 7 (noDst_spec (by kernel_rfl))).trans rfl
      have e7 := (getD_form _ _).symm.trans f7
      exact .inl ⟨wanted_on rfl rfl rfl (hd 26 (by kernel_rfl) _ _ rfl rfl), OpDoes.run (v := .agg (arrO (hmac N (x :: L)))) (w' := wx) (exec_load_agg 58 (.tmp 7) rfl w6.heap.size 0 f7 _ Tryd.underlying58 rfl 32 infoI _ (row_cells (row_q hq HV.out))) ⟨Below.refl _ _, rfl⟩⟩
    · intro ax wx hq hfr hd
      have f73 : ax.tmps.getD 73 undef = .agg (arrO (hmac N (x :: L))) := hd 32 (by kernel_rfl) _ _ rfl rfl
      have e73 := (getD_form _ _).symm.trans f73
      have f74 : ax.tmps.getD 74 undef = .agg (arrO (hmac N (x :: L))) := hd 33 (by kernel_rfl) _ _ rfl rfl
      have e74 := (getD_form _ _).symm.trans f74
      exact .inl ⟨wanted_on rfl rfl rfl (hd 26 (by kernel_rfl) _ _ rfl rfl), OpDoes.run (v := .bool true) (w' := wx) (run_eq_sameI _ _ _ _ _ _ rfl f73 f74 _) ⟨Below.refl _ _, rfl⟩⟩
    · intro ax wx hq hfr hd
      have f67 : ax.tmps.getD 67 undef = .bool true := hd 26 (by kernel_rfl) _ _ rfl rfl
      have e67 := (getD_form _ _).symm.trans f67
      have f75 : ax.tmps.getD 75 undef = .bool true := hd 34 (by kernel_rfl) _ _ rfl rfl
      have e75 := (getD_form _ _).symm.trans f75
      exact .inl ⟨wanted_free rfl, OpDoes.run (v := .bool true) (w' := wx) (by unfold execOp; simp [go_sem, Act.eval, e67, e75]) ⟨Below.refl _ _, rfl⟩⟩
    · intro ax wx hq hfr hd
      have f76 : ax.tmps.getD 76 undef = .bool true := hd 35 (by kernel_rfl) _ _ rfl rfl
      have e76 := (getD_form _ _).symm.trans f76
      exact .inl ⟨wanted_free rfl, OpDoes.run (v := .bool true) (w' := wx) (by unfold execOp; simp only [Act.eval, f76, Sem.run_pure]) ⟨Below.refl _ _, rfl⟩⟩
  · intro ax wx inv
    have f2 : ax.tmps.getD 2 undef = .bool true := inv.fact 36 _ _ rfl rfl (by simp)
    have hdf : ax.defers = [] := inv.defers
    have HQX : Hid (Q w8 wx) := inv.q
    clear inv
    go_wp2_with fail
    refine bodyPost_ret (results_tmp rfl _ _ _) hdf ⟨?_, HQ8.out.trans' HQX.out⟩
    rw [f2]
end

section
theorem keyIds_walk (N : List Nat) (x : Nat) (A : Option Addr) (n c m : Nat) (L : List Nat) (t : Int) (w : World) (hG : Glob w) (hN : N.length = 32) (hbN : ∀ x ∈ N, x ≤ 255) (hx : x ≤ 255)
    (hm : m = min n 1000) (hnc : n ≤ c) (hcm : c ≤ 9223372036854775807) (hl : L.length = m) (hs : Sees w w.heap.size A (L.map B8)) (hb : ∀ x ∈ L, x ≤ 255) :
    Calls Tryd.prog 11 #[.agg (tagC N x A n c t)] w fun e w' => e = .returned (.bool true) ∧ Below w.heap.size w w' :=
  keyIds_core L9 L8 (Lib.hid fun op ρ w => run_b9 op ρ w) (Lib.hid fun op ρ w => run_b8 op ρ w) N x A n c m L t w hG hN hbN hx hm hnc hcm hl hs hb

structure TagIn where
  N : List Nat
  x : Nat
  A : Option Addr
  n : Nat
  c : Nat
  t : Int
  zs : List Int
structure TagOk (w : World) (z : TagIn) : Prop where
  hN : z.N.length = 32
  hb : ∀ x ∈ z.N, x ≤ 255
  hx : z.x ≤ 255
  row : IsRow .u8 w z.A z.n z.c z.zs

section
open Go.ChangeShapes Go.WideShapes Go.Deep
variable {H : Type} {enc : TypeId × Value → H} {w : World} {held : Bool}
theorem wf8' {z : Int} (h : (Lit.int .u8 z).wf = true) : 0 ≤ z ∧ z ≤ 255 := wf8 h
/-- Cells that hold 32 bytes. -/
theorem opens_arr : Opens enc Tryd.prog w held 28 (fun cs (L : List Nat) => cs = (arrO L).toList ∧ (∀ x ∈ L, x ≤ 255) ∧ L.length = 32) := fun k cs y h => by
  have hC : Tryd.prog.cellsOf 28 = 32 := by kernel_rfl
  have hC1 : Tryd.prog.cellsOf 5 = 1 := by kernel_rfl
  obtain ⟨l, hcl, hl, hat⟩ := Opens.array (enc := enc) (P := Tryd.prog) (w := w) (held := held) (n := 32) Tryd.underlying28 (Opens.int Tryd.underlying5) _ _ _ h
  rw [hC] at hcl
  have hcell : ∀ i (hi : i < l.length), cs[i]? = some (.int .u8 l[i]) ∧ (Lit.int .u8 l[i]).wf = true := fun i hi => by
    obtain ⟨h1, h2⟩ := hat i hi
    rw [hC1, Nat.mul_one] at h1
    refine ⟨?_, h2⟩
    have h3 := congrArg (·[0]?) h1
    simpa using h3
  have hz : ∀ z ∈ l, 0 ≤ z ∧ z ≤ 255 := fun z hz => by
    obtain ⟨i, hi, rfl⟩ := List.getElem_of_mem hz
    exact wf8 (hcell i hi).2
  refine ⟨l.map Int.toNat, ?_, fun x hx => ?_, by rw [List.length_map, hl]⟩
  · apply List.ext_getElem?
    intro i
    by_cases hi : i < 32
    · have hil : i < l.length := by rw [hl]; exact hi
      rw [(hcell i hil).1, Array.getElem?_toList, arrO_get _ hi]
      have h4 := hz _ (List.getElem_mem hil)
      have h5 : (l.map Int.toNat).getD i 0 = l[i].toNat := by rw [List.getD_eq_getElem?_getD, List.getElem?_map, List.getElem?_eq_getElem hil]; rfl
      unfold arrF B8
      rw [h5, Int.toNat_of_nonneg h4.1]
    · rw [List.getElem?_eq_none (by omega), Array.getElem?_toList, Array.getElem?_eq_none (by rw [arrO_size]; omega)]
  · obtain ⟨z, hz', rfl⟩ := List.mem_map.1 hx
    have := hz z hz'
    omega
/-- Cells that hold a row of numbers. -/
theorem Opens.ints {P : Program} {t e : TypeId} {k : IntKind} (ht : P.underlying t = some (.slice e)) (he : P.underlying e = some (.int k)) (hc : P.cellsOf e = 1) :
    Opens enc P w held t (fun cs (r : Option Addr × Nat × Nat × List Int) => cs = [.slice r.1 r.2.1 r.2.2.1] ∧ IsRow k w r.1 r.2.1 r.2.2.1 r.2.2.2) := fun _ cs x h => by
  rcases open_ints ht he hc h with ⟨hcs, _⟩ | ⟨a, l, c, zs, hcs, _, hl, hm, hz, _, hcell, hwz⟩
  · exact ⟨(none, 0, 0, []), hcs, .inl ⟨rfl, rfl, rfl, rfl⟩⟩
  · exact ⟨(some a, l, c, zs), hcs, .inr ⟨_, rfl, hl, hm, by simpa using hz, hcell, hwz⟩⟩
theorem split35 (cs : List Value) (N x S T : List Value) (hl : cs.length = 35) (h0 : (cs.drop 0).take 32 = N) (h1 : (cs.drop 32).take 1 = x) (h2 : (cs.drop 33).take 1 = S) (h3 : (cs.drop 34).take 1 = T) : cs = N ++ x ++ S ++ T := by
  rw [← h0, ← h1, ← h2, ← h3]
  rw [List.take_of_length_le (l := cs.drop 34) (by rw [List.length_drop]; omega), List.append_assoc, ← List.drop_drop (i := 1) (j := 33), List.take_append_drop, List.append_assoc, ← List.drop_drop (i := 1) (j := 32), List.take_append_drop, List.drop_zero, List.take_append_drop]
set_option maxRecDepth 100000 in
theorem tag_of_trod {r : Reach} {b0 : Nat} {v : Value} {d : DataW H} {p : List MemPlace} (hv : Value.okWide Tryd.prog w r b0 57 v) (h : DataW.Trod enc Tryd.prog w 0 (fun _ => true) held 57 v d p) :
    ∃ z : TagIn, v = .agg (tagC z.N z.x z.A z.n z.c z.t) ∧ TagOk w z := by
  obtain ⟨cs, rfl, hsz⟩ : ∃ cs, v = .agg cs ∧ cs.size = Tryd.prog.cellsOf 57 := by
    simp only [Value.okWide, Tryd.underlying57] at hv
    obtain ⟨cs, h1, h2, _⟩ := hv
    exact ⟨cs, h1, h2⟩
  obtain ⟨fuel, hf⟩ := h
  obtain ⟨hl, hfield⟩ := Opens.field Tryd.underlying57 hf
  obtain ⟨N, n1, n2, n3⟩ := hfield 0 _ rfl opens_arr
  obtain ⟨x, x1, x2⟩ := hfield 1 _ rfl (Opens.int Tryd.underlying5)
  obtain ⟨⟨A, n, c, zs⟩, s1, s2⟩ := hfield 2 _ rfl (Opens.ints Tryd.underlying22 Tryd.underlying5 (by kernel_rfl))
  obtain ⟨t, t1, t2⟩ := hfield 3 _ rfl (Opens.int Tryd.underlying3)
  have hC : Tryd.prog.cellsOf 57 = 35 := by kernel_rfl
  have c0 : Tryd.prog.cellsOf 28 = 32 := by kernel_rfl
  have c1 : Tryd.prog.cellsOf 5 = 1 := by kernel_rfl
  have c2 : Tryd.prog.cellsOf 22 = 1 := by kernel_rfl
  have c3 : Tryd.prog.cellsOf 3 = 1 := by kernel_rfl
  rw [hC] at hl
  simp only [c0, c1, c2, c3] at n1 x1 s1 t1
  have hx := wf8 x2
  refine ⟨⟨N, x.toNat, A, n, c, t, zs⟩, ?_, ⟨n3, n2, by show x.toNat ≤ 255; omega, s2⟩⟩
  have e := split35 _ _ _ _ _ hl n1 x1 s1 t1
  show Value.agg cs = _
  refine congrArg Value.agg ?_
  apply Array.toList_inj.1
  refine (show cs.toList = _ from e).trans ?_
  unfold tagC
  rw [Array.toList_append, Int.toNat_of_nonneg hx.1]
  simp
end
theorem keyIds_true (z : TagIn) (w : World) (h : TagOk w z) (hG : Glob w) :
    Calls Tryd.prog 11 #[.agg (tagC z.N z.x z.A z.n z.c z.t)] w fun e w' => e = .returned (.bool true) ∧ Below w.heap.size w w' := by
  obtain ⟨h1, h2, h3, h4, h5, h6⟩ := row8 h.row (min z.n 1000) (by omega)
  exact keyIds_walk z.N z.x z.A z.n z.c _ _ z.t w hG h.hN h.hb h.hx rfl h4 h5 h1 h2 h3
end
end Go.Proofs.YtcdbffgmgfblkaaDoor
