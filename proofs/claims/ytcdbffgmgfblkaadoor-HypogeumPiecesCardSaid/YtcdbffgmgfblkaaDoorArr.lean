/- Arrays of 32 bytes, and parts of rows of bytes: words for sums. -/
import Derived.Test.YtcdbffgmgfblkaaDoorShaL
import Derived.Test.YtcdbffgmgfblkaaDoorSl
import Derived.ChangeKeysEq
namespace Go.Proofs.YtcdbffgmgfblkaaDoor
set_option linter.unusedVariables false
set_option linter.unusedSimpArgs false
open Go.RowKit

theorem wrap64_small {x : Nat} (h : x ≤ 9223372036854775807) : wrap64 (x : Int) = (x : Int) := by unfold wrap64; omega
theorem sees_arr {w : World} {g n : Nat} {t : TypeId} {L : List Nat} {ok : Nat → Prop} (hr : w.rowIs g t n (arrF L)) (hl : L.length = n) (hok : ok g) : SeesP w ok (some ⟨g, 0, none⟩) (L.map B8) := fun _ => by
  refine ⟨g, 0, rfl, hok, fun j u hu => ?_⟩
  have hj : j < n := by have := (List.getElem?_eq_some_iff.1 hu).1; rw [List.length_map] at this; omega
  rw [Nat.zero_add, hr.cell hj]
  rw [List.getElem?_map, Option.map_eq_some_iff] at hu
  obtain ⟨x, hx, rfl⟩ := hu
  unfold arrF
  rw [List.getD_eq_getElem?_getD, hx]; rfl
theorem cut_le (u m : Nat) : ∃ i : Nat, (u : Int) % ((m : Int) + 1) = (i : Int) ∧ i ≤ m := by
  have h := Nat.mod_lt u (show m + 1 > 0 by omega)
  exact ⟨u % (m + 1), by push_cast; rfl, by omega⟩
theorem two_cuts (u1 u2 m : Nat) (hm : m ≤ 100000) : ∃ i k i0 k0 : Nat, (u1 : Int) % ((m : Int) + 1) = (i0 : Int) ∧ (u2 : Int) % ((m : Int) + 1) = (k0 : Int) ∧ wrap64 (i0 : Int) = (i0 : Int) ∧ wrap64 (k0 : Int) = (k0 : Int) ∧
    i = min i0 k0 ∧ (k : Int) = max (i0 : Int) (k0 : Int) ∧ i ≤ k ∧ k ≤ m := by
  obtain ⟨i0, g1, h1⟩ := cut_le u1 m
  obtain ⟨k0, g2, h2⟩ := cut_le u2 m
  refine ⟨min i0 k0, max i0 k0, i0, k0, g1, g2, wrap64_small (by omega), wrap64_small (by omega), rfl, by omega, by omega, by omega⟩

section
variable {P : Program} (t e : TypeId) (ht : P.underlying t = some (.slice e)) (i : TypeInfo) (hi0 : P.info? e = some i) (hs : i.size = 1) (A : Option Addr) (n c : Nat)
include ht hi0
theorem run_cut_hi (k : IntKind) (h : Nat) (hc : h ≤ c) (w : World) : (Instr.sliceAt t (.slice A n c) none (some (.int k (h : Int))) none).run P w = .ok (.slice A h c) w := by
  have he : P.elem t = e := by simp [Program.elem, ht]
  have ht' : P.underlying t = some (.slice (P.elem t)) := by rw [he]; exact ht
  rw [run_sliceAt_slice w t _ _ _ _ ht', run_slice_h w t A n c ht' k h (by omega) (by omega), he, size_run hi0]
  have := cutA_zero A c i.size
  simp only [Result.andThen, sliced]
  unfold cutA at this
  rw [this]; simp
include hs
theorem run_cut_lo (k : IntKind) (l : Nat) (hc : l ≤ n) (B : Option Addr) (hB : B = cutA A c l 1) (w : World) : (Instr.sliceAt t (.slice A n c) (some (.int k (l : Int))) none none).run P w = .ok (.slice B (n - l) (c - l)) w := by
  have he : P.elem t = e := by simp [Program.elem, ht]
  have ht' : P.underlying t = some (.slice (P.elem t)) := by rw [he]; exact ht
  rw [run_sliceAt_slice w t _ _ _ _ ht', run_slice_l w t A n c ht' k l (by omega) (by omega), he, size_run hi0, hs, hB]
  simp only [Result.andThen, sliced, Int.toNat_natCast]
  rfl
theorem run_cut_lh (k k' : IntKind) (l h : Nat) (hlh : l ≤ h) (hc : h ≤ c) (B : Option Addr) (hB : B = cutA A c l 1) (w : World) : (Instr.sliceAt t (.slice A n c) (some (.int k (l : Int))) (some (.int k' (h : Int))) none).run P w = .ok (.slice B (h - l) (c - l)) w := by
  have he : P.elem t = e := by simp [Program.elem, ht]
  have ht' : P.underlying t = some (.slice (P.elem t)) := by rw [he]; exact ht
  rw [run_sliceAt_slice w t _ _ _ _ ht', run_slice_lh w t A n c ht' k k' l h (by omega) (by omega) (by omega), he, size_run hi0, hs, hB]
  simp only [Result.andThen, sliced, Int.toNat_natCast]
  rfl
end

theorem PartsB.belowP {w w' : World} {ok : Nat → Prop} {parts : List (Value × List Nat)} {B : Nat} (h : PartsB w ok parts) (hok : ∀ b, ok b → b < B) (hb : Below B w w') : PartsB w' ok parts := fun z hz => by
  obtain ⟨A, n, c, h1, h2, h3, h4⟩ := h z hz
  exact ⟨A, n, c, h1, h2, h3.belowP hok hb, h4⟩
theorem PartsB.more {w : World} {ok ok' : Nat → Prop} {parts : List (Value × List Nat)} (h : PartsB w ok parts) (hm : ∀ b, ok b → ok' b) : PartsB w ok' parts := fun z hz => by
  obtain ⟨A, n, c, h1, h2, h3, h4⟩ := h z hz
  exact ⟨A, n, c, h1, h2, h3.more hm, h4⟩

abbrev BR (w : World) (cs : List Value) (r : Option Addr × Nat × Nat × List Int) : Prop := cs = [.slice r.1 r.2.1 r.2.2.1] ∧ RowOfR w 1 (IntR .u8) r.1 r.2.1 r.2.2.1 r.2.2.2
/-- A part that is cut out of a row. -/
theorem part_hi {w : World} {ok : Nat → Prop} {A : Option Addr} {L : List Nat} {m c i : Nat} (hs : SeesP w ok A (L.map B8)) (hl : L.length = m) (hb : ∀ x ∈ L, x ≤ 255) (hi : i ≤ m) : PartsB w ok [(.slice A i c, L.take i)] := fun z hz => by
  simp only [List.mem_cons, List.not_mem_nil, or_false] at hz
  subst hz
  exact ⟨_, _, _, rfl, by rw [List.length_take]; omega, by rw [List.map_take]; exact hs.take i, fun x hx => hb x (List.mem_of_mem_take hx)⟩
theorem part_lo {w : World} {ok : Nat → Prop} {A B : Option Addr} {L : List Nat} {m c i : Nat} (hs : SeesP w ok A (L.map B8)) (hl : L.length = m) (hb : ∀ x ∈ L, x ≤ 255) (hm : m ≤ c) (hB : B = cutA A c i 1) : PartsB w ok [(.slice B (m - i) (c - i), L.drop i)] := fun z hz => by
  simp only [List.mem_cons, List.not_mem_nil, or_false] at hz
  subst hz
  refine ⟨_, _, _, rfl, by rw [List.length_drop, hl], ?_, fun x hx => hb x (List.mem_of_mem_drop hx)⟩
  have h3 := hs.cut (c := c) (l := i) (s := 1) (by rw [List.length_map, hl]; omega)
  rw [Nat.mul_one, ← List.map_drop, ← hB] at h3
  exact h3
theorem part_all {w : World} {ok : Nat → Prop} {A : Option Addr} {L : List Nat} {m c : Nat} (hs : SeesP w ok A (L.map B8)) (hl : L.length = m) (hb : ∀ x ∈ L, x ≤ 255) : PartsB w ok [(.slice A m c, L)] := fun z hz => by
  simp only [List.mem_cons, List.not_mem_nil, or_false] at hz
  subst hz
  exact ⟨_, _, _, rfl, hl, hs, hb⟩
theorem part_nil (w : World) (ok : Nat → Prop) : PartsB w ok [(.slice none 0 0, [])] := fun z hz => by
  simp only [List.mem_cons, List.not_mem_nil, or_false] at hz
  subst hz
  exact ⟨_, _, _, rfl, rfl, SeesP.nil _ _ _, fun x hx => by cases hx⟩
theorem PartsB.append {w : World} {ok : Nat → Prop} {P P' : List (Value × List Nat)} (h : PartsB w ok P) (h' : PartsB w ok P') : PartsB w ok (P ++ P') := fun z hz => (List.mem_append.1 hz).elim (h z) (h' z)
theorem one_cut (u m : Nat) (hm : m ≤ 100000) : ∃ i : Nat, (u : Int) % ((m : Int) + 1) = (i : Int) ∧ wrap64 (i : Int) = (i : Int) ∧ i ≤ m := by
  obtain ⟨i, h1, h2⟩ := cut_le u m
  exact ⟨i, h1, wrap64_small (by omega), h2⟩

/-- An array of 32 bytes, its cells. -/
def arrO (L : List Nat) : Array Value := ((List.range 32).map (arrF L)).toArray
theorem arrO_agg (L : List Nat) : AggIs (.agg (arrO L)) 32 (arrF L) := ⟨_, rfl, by simp [arrO], fun i hi => by simp [arrO, hi]⟩
theorem arrO_eq {V : Value} {L : List Nat} (h : AggIs V 32 (arrF L)) : V = .agg (arrO L) := AggIs.unique h (arrO_agg L)
theorem eqItems_bytes (L M : List Nat) (d : Nat) (w : World) : ∀ is : List Nat, (∀ i ∈ is, i < 32) →
    (Op.eqItems (d + 1) 5 1 (arrO L) (arrO M) is).run Tryd.prog w = .ok (is.all fun i => L.getD i 0 == M.getD i 0) w
  | [], _ => by simp [Op.eqItems]
  | i :: is, h => by
    have hi := h i (by simp)
    have hp : ∀ K, (part 5 (arrO K) (i * 1)).run Tryd.prog w = .ok (B8 (K.getD i 0)) w := fun K => by
      refine run_part_plain w (by kernel_rfl) ?_
      rw [Nat.mul_one]
      simp [arrO, hi, arrF]
    have ih := eqItems_bytes L M d w is (fun j hj => h j (by simp [hj]))
    have he : (Op.equalIn (d + 1) 5 (B8 (L.getD i 0)) (B8 (M.getD i 0))).run Tryd.prog w = .ok (((L.getD i 0 : Nat) : Int) == ((M.getD i 0 : Nat) : Int)) w := run_equalIn_int w d 5 .u8 .u8 _ _ Tryd.underlying5
    have hb : (((L.getD i 0 : Nat) : Int) == ((M.getD i 0 : Nat) : Int)) = (L.getD i 0 == M.getD i 0) := by
      rw [Bool.eq_iff_iff, beq_iff_eq, beq_iff_eq]; omega
    rw [hb] at he
    simp only [Op.eqItems, Sem.run_bind, hp, he, Result.andThen_ok, List.all_cons]
    cases L.getD i 0 == M.getD i 0
    · simp
    · simpa using ih
/-- Two sums are the same if their bytes are. -/
theorem eq_arr (L M : List Nat) (hl : L.length = 32) (hm : M.length = 32) (w : World) : (Op.equalIn 10000 28 (.agg (arrO L)) (.agg (arrO M))).run Tryd.prog w = .ok (decide (L = M)) w := by
  obtain ⟨i8, hi8, hz80, hz81, hz82⟩ := info_parts info8
  have hc : Tryd.prog.cellsOf 5 = 1 := by kernel_rfl
  have h1 := run_equalIn_array w 9999 (arrO L) (arrO M) Tryd.underlying28 hi8
  have h2 := eqItems_bytes L M 9998 w (List.range 32) (fun i hi => List.mem_range.1 hi)
  rw [hc] at h1
  refine (h1.trans h2).trans (congrArg (fun b => Result.ok b w) ?_)
  rw [Bool.eq_iff_iff, List.all_eq_true, decide_eq_true_iff]
  constructor
  · intro h
    refine List.ext_getElem (by omega) fun i h1 h2 => ?_
    have h3 := beq_iff_eq.1 (h i (List.mem_range.2 (by omega)))
    rwa [List.getD_eq_getElem?_getD, List.getD_eq_getElem?_getD, List.getElem?_eq_getElem h1, List.getElem?_eq_getElem h2] at h3
  · rintro rfl i _
    exact beq_iff_eq.2 rfl
theorem eq_same (L : List Nat) (hl : L.length = 32) (w : World) : (Op.equalIn 10000 28 (.agg (arrO L)) (.agg (arrO L))).run Tryd.prog w = .ok true w := by
  rw [eq_arr L L hl hl w, decide_eq_true rfl]
theorem eqGuard32 : Tryd.prog.eqGuardType Tryd.prog.depth 28 = false := by kernel_rfl
theorem run_eql_arr (op : Oper) (L M : List Nat) (hl : L.length = 32) (hm : M.length = 32) (ρ : Operand → Value) (x y : Operand) (t : TypeId) (ho : op.op = .binOp .eql 28 x y t) (hx : ρ x = .agg (arrO L)) (hy : ρ y = .agg (arrO M)) (w : World) : (execOp ρ op).run Tryd.prog w = .ok (.value (.bool (decide (L = M)))) w := by
  have h1 : (eqGuard .eql 28 x y (.agg (arrO L)) (.agg (arrO M))).run Tryd.prog w = .ok () w := run_eqGuard_agg w .eql 28 x y (arrO L) (arrO M) eqGuard32
  have h2 : (binOp .eql 28 (.agg (arrO L)) (.agg (arrO M))).run Tryd.prog w = .ok (.bool (decide (L = M))) w := by
    rw [run_eql_struct, eq_arr L M hl hm w]; rfl
  unfold execOp
  simp only [ho, hx, hy, Sem.run_bind, h1, Result.andThen_ok, h2, Sem.run_pure]
theorem run_eq_same (op : Oper) (L : List Nat) (hl : L.length = 32) (ρ : Operand → Value) (x y : Operand) (t : TypeId) (ho : op.op = .binOp .eql 28 x y t) (hx : ρ x = .agg (arrO L)) (hy : ρ y = .agg (arrO L)) (w : World) : (execOp ρ op).run Tryd.prog w = .ok (.value (.bool true)) w :=
  (run_eql_arr op L L hl hl ρ x y t ho hx hy w).trans (by rw [decide_eq_true rfl])
/-- A row that was just made, or made with another one. -/
theorem new1 (w : World) (cs : List Value) (t : TypeId) : SeesP (w.alloc (.cells cs.toArray t)) (· < (w.alloc (.cells cs.toArray t)).heap.size) (some ⟨w.heap.size, 0, none⟩) cs := by
  rw [alloc_size]; exact SeesP.new w cs t
theorem new2 (w : World) (o : Obj) (cs : List Value) (t : TypeId) : SeesP ((w.alloc (.cells cs.toArray t)).alloc o) (· < ((w.alloc (.cells cs.toArray t)).alloc o).heap.size) (some ⟨w.heap.size, 0, none⟩) cs :=
  ((new1 w cs t).belowP (fun _ h => h) ((Q.refl _).alloc o)).more fun b hb => by rw [alloc_size]; omega
theorem new3 (w : World) (o : Obj) (cs : List Value) (t : TypeId) : SeesP ((w.alloc o).alloc (.cells cs.toArray t)) (· < ((w.alloc o).alloc (.cells cs.toArray t)).heap.size) (some ⟨w.heap.size + 1, 0, none⟩) cs := by
  have h := new1 (w.alloc o) cs t
  rw [alloc_size w o] at h
  exact h
theorem SeesP.on {w w' : World} {A : Option Addr} {cs : List Value} (h : SeesP w (· < w.heap.size) A cs) (hq : Q w w') : SeesP w' (· < w'.heap.size) A cs :=
  (h.belowP (fun _ h => h) hq).more fun _ hb => Nat.lt_of_lt_of_le hb hq.size
theorem PartsB.on {w w' : World} {P : List (Value × List Nat)} (h : PartsB w (· < w.heap.size) P) (hq : Q w w') : PartsB w' (· < w'.heap.size) P :=
  (h.belowP (fun _ h => h) hq).more fun _ hb => Nat.lt_of_lt_of_le hb hq.size
theorem of_any (A : Option Addr) (n c : Nat) (P : List (Value × List Nat)) (w' : World) (hG : Glob w') (hs : SeesP w' (· < w'.heap.size) A (P.map (·.1))) (hp : PartsB w' (· < w'.heap.size) P) (hn : P.length = n) (hlen : (partsL P).length ≤ 10000000) (hn1 : n ≤ 1000) :
    Calls Tryd.prog 18 #[.slice A n c] w' fun e w'' => e = .returned (.agg (arrO (sha (partsL P)))) ∧ Hid (Q w' w'') := by
  refine (of_ok A n c P (· < w'.heap.size) w' hG hn hs hp (fun _ h => h) (by omega) (by omega)).mono ?_
  rintro e w'' ⟨V, rfl, h⟩
  exact ⟨by rw [arrO_eq h.out.1], h.out.2⟩
end Go.Proofs.YtcdbffgmgfblkaaDoor
