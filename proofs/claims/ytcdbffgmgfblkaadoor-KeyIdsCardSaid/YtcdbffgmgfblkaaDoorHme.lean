/- Sums compared: arrays of bytes. -/
import Derived.Test.YtcdbffgmgfblkaaDoorHmd
import Derived.ChangeKeysEq
namespace Go.Proofs.YtcdbffgmgfblkaaDoor
set_option linter.unusedVariables false
set_option linter.unusedSimpArgs false
open Go.RowKit

/-- An array of 32 bytes, its cells. -/
def arrO (L : List Nat) : Array Value := ((List.range 32).map (arrF L)).toArray
theorem arrO_agg (L : List Nat) : AggIs (.agg (arrO L)) 32 (arrF L) := ⟨_, rfl, by simp [arrO], fun i hi => by simp [arrO, hi]⟩
theorem arrO_eq {V : Value} {L : List Nat} (h : AggIs V 32 (arrF L)) : V = .agg (arrO L) := AggIs.unique h (arrO_agg L)
theorem eqItems_bytes (L M : List Nat) (d : Nat) (w : World) : ∀ is : List Nat, (∀ i ∈ is, i < 32) →
    (Op.eqItems (d + 1) 5 1 (arrO L) (arrO M) is).run Tryd.prog w = .ok (is.all fun i => L.getD i 0 == M.getD i 0) w
  | [], _ => by simp [Op.eqItems]
  | i :: is, h => by
    have hi := h i (by simp)
    have hp : ∀ K, (part 5 (arrO K) (i * 1)).run Tryd.prog w = .ok (B8 (K.getD i 0)) w := fun K => by
      refine run_part_plain w (by kernel_rfl) ?_
      rw [Nat.mul_one]
      simp [arrO, hi, arrF]
    have ih := eqItems_bytes L M d w is (fun j hj => h j (by simp [hj]))
    have he : (Op.equalIn (d + 1) 5 (B8 (L.getD i 0)) (B8 (M.getD i 0))).run Tryd.prog w = .ok (((L.getD i 0 : Nat) : Int) == ((M.getD i 0 : Nat) : Int)) w := run_equalIn_int w d 5 .u8 .u8 _ _ Tryd.underlying5
    have hb : (((L.getD i 0 : Nat) : Int) == ((M.getD i 0 : Nat) : Int)) = (L.getD i 0 == M.getD i 0) := by
      rw [Bool.eq_iff_iff, beq_iff_eq, beq_iff_eq]; omega
    rw [hb] at he
    simp only [Op.eqItems, Sem.run_bind, hp, he, Result.andThen_ok, List.all_cons]
    cases L.getD i 0 == M.getD i 0
    · simp
    · simpa using ih
/-- Two sums are the same if their bytes are. -/
theorem eq_arr (L M : List Nat) (hl : L.length = 32) (hm : M.length = 32) (w : World) : (Op.equalIn 10000 28 (.agg (arrO L)) (.agg (arrO M))).run Tryd.prog w = .ok (decide (L = M)) w := by
  obtain ⟨i8, hi8, hz80, hz81, hz82⟩ := info_parts info8
  have hc : Tryd.prog.cellsOf 5 = 1 := by kernel_rfl
  have h1 := run_equalIn_array w 9999 (arrO L) (arrO M) Tryd.underlying28 hi8
  have h2 := eqItems_bytes L M 9998 w (List.range 32) (fun i hi => List.mem_range.1 hi)
  rw [hc] at h1
  refine (h1.trans h2).trans (congrArg (fun b => Result.ok b w) ?_)
  rw [Bool.eq_iff_iff, List.all_eq_true, decide_eq_true_iff]
  constructor
  · intro h
    refine List.ext_getElem (by omega) fun i h1 h2 => ?_
    have h3 := beq_iff_eq.1 (h i (List.mem_range.2 (by omega)))
    rwa [List.getD_eq_getElem?_getD, List.getD_eq_getElem?_getD, List.getElem?_eq_getElem h1, List.getElem?_eq_getElem h2] at h3
  · rintro rfl i _
    exact beq_iff_eq.2 rfl
theorem eq_same (L : List Nat) (hl : L.length = 32) (w : World) : (Op.equalIn 10000 28 (.agg (arrO L)) (.agg (arrO L))).run Tryd.prog w = .ok true w := by
  rw [eq_arr L L hl hl w, decide_eq_true rfl]
theorem eqGuard32 : Tryd.prog.eqGuardType Tryd.prog.depth 28 = false := by kernel_rfl
theorem run_eql_arr (op : Oper) (L M : List Nat) (hl : L.length = 32) (hm : M.length = 32) (ρ : Operand → Value) (x y : Operand) (t : TypeId) (ho : op.op = .binOp .eql 28 x y t) (hx : ρ x = .agg (arrO L)) (hy : ρ y = .agg (arrO M)) (w : World) : (execOp ρ op).run Tryd.prog w = .ok (.value (.bool (decide (L = M)))) w := by
  have h1 : (eqGuard .eql 28 x y (.agg (arrO L)) (.agg (arrO M))).run Tryd.prog w = .ok () w := run_eqGuard_agg w .eql 28 x y (arrO L) (arrO M) eqGuard32
  have h2 : (binOp .eql 28 (.agg (arrO L)) (.agg (arrO M))).run Tryd.prog w = .ok (.bool (decide (L = M))) w := by
    rw [run_eql_struct, eq_arr L M hl hm w]; rfl
  unfold execOp
  simp only [ho, hx, hy, Sem.run_bind, h1, Result.andThen_ok, h2, Sem.run_pure]
theorem run_eq_same (op : Oper) (L : List Nat) (hl : L.length = 32) (ρ : Operand → Value) (x y : Operand) (t : TypeId) (ho : op.op = .binOp .eql 28 x y t) (hx : ρ x = .agg (arrO L)) (hy : ρ y = .agg (arrO L)) (w : World) : (execOp ρ op).run Tryd.prog w = .ok (.value (.bool true)) w :=
  (run_eql_arr op L L hl hl ρ x y t ho hx hy w).trans (by rw [decide_eq_true rfl])
/-- A row that was just made, or made with another one. -/
theorem new1 (w : World) (cs : List Value) (t : TypeId) : SeesP (w.alloc (.cells cs.toArray t)) (· < (w.alloc (.cells cs.toArray t)).heap.size) (some ⟨w.heap.size, 0, none⟩) cs := by
  rw [alloc_size]; exact SeesP.new w cs t
theorem new2 (w : World) (o : Obj) (cs : List Value) (t : TypeId) : SeesP ((w.alloc (.cells cs.toArray t)).alloc o) (· < ((w.alloc (.cells cs.toArray t)).alloc o).heap.size) (some ⟨w.heap.size, 0, none⟩) cs :=
  ((new1 w cs t).belowP (fun _ h => h) ((Q.refl _).alloc o)).more fun b hb => by rw [alloc_size]; omega
theorem new3 (w : World) (o : Obj) (cs : List Value) (t : TypeId) : SeesP ((w.alloc o).alloc (.cells cs.toArray t)) (· < ((w.alloc o).alloc (.cells cs.toArray t)).heap.size) (some ⟨w.heap.size + 1, 0, none⟩) cs := by
  have h := new1 (w.alloc o) cs t
  rw [alloc_size w o] at h
  exact h
theorem SeesP.on {w w' : World} {A : Option Addr} {cs : List Value} (h : SeesP w (· < w.heap.size) A cs) (hq : Q w w') : SeesP w' (· < w'.heap.size) A cs :=
  (h.belowP (fun _ h => h) hq).more fun _ hb => Nat.lt_of_lt_of_le hb hq.size
theorem PartsB.on {w w' : World} {P : List (Value × List Nat)} (h : PartsB w (· < w.heap.size) P) (hq : Q w w') : PartsB w' (· < w'.heap.size) P :=
  (h.belowP (fun _ h => h) hq).more fun _ hb => Nat.lt_of_lt_of_le hb hq.size
theorem of_any (A : Option Addr) (n c : Nat) (P : List (Value × List Nat)) (w' : World) (hG : Glob w') (hs : SeesP w' (· < w'.heap.size) A (P.map (·.1))) (hp : PartsB w' (· < w'.heap.size) P) (hn : P.length = n) (hlen : (partsL P).length ≤ 10000000) (hn1 : n ≤ 1000) :
    Calls Tryd.prog 18 #[.slice A n c] w' fun e w'' => e = .returned (.agg (arrO (sha (partsL P)))) ∧ Hid (Q w' w'') := by
  refine (of_ok A n c P (· < w'.heap.size) w' hG hn hs hp (fun _ h => h) (by omega) (by omega)).mono ?_
  rintro e w'' ⟨V, rfl, h⟩
  exact ⟨by rw [arrO_eq h.out.1], h.out.2⟩
theorem keyed_any (Ak : Option Addr) (nk ck : Nat) (K : List Nat) (A : Option Addr) (n c : Nat) (P : List (Value × List Nat)) (w' : World) (hG : Glob w') (hK : K.length = nk) (hsK : SeesP w' (· < w'.heap.size) Ak (K.map B8)) (hbK : ∀ x ∈ K, x ≤ 255) (hAk : Ak = none → ck = 0) (hs : SeesP w' (· < w'.heap.size) A (P.map (·.1))) (hA : A = none → c = 0) (hp : PartsB w' (· < w'.heap.size) P) (hn : P.length = n) (hKl : nk ≤ 1000000) (hlen : (partsL P).length ≤ 10000000) (hn1 : n ≤ 1000) :
    Calls Tryd.prog 21 #[.slice Ak nk ck, .slice A n c] w' fun e w'' => e = .returned (.agg (arrO (hmac K (partsL P)))) ∧ Hid (Q w' w'') := by
  refine (keyed_ok Ak nk ck K A n c P (· < w'.heap.size) w' hG hK hsK hbK hAk hn hs hA hp (fun _ h => h) hKl (by omega) (by omega)).mono ?_
  rintro e w'' ⟨V, rfl, h⟩
  exact ⟨by rw [arrO_eq h.out.1], h.out.2⟩
end Go.Proofs.YtcdbffgmgfblkaaDoor
