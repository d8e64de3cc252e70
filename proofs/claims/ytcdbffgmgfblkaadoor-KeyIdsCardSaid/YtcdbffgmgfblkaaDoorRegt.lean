/- A region that draws its order, walked by facts, whose last operation (a store, an append) is walked by itself: it waits for all others. -/
import Derived.Test.YtcdbffgmgfblkaaDoorRegf
namespace Go.Proofs.YtcdbffgmgfblkaaDoor
set_option linter.unusedVariables false
set_option linter.unusedSimpArgs false
open Go.RowKit

section
variable {P : Program} {ops : Array Oper} {Qx : Exit → Act → World → Prop} {md : Region.Mode}
/-- The last operation waits for each other one. -/
def lastB (md : Region.Mode) (ops : Array Oper) : Bool :=
  match ops[ops.size - 1]? with
  | none => false
  | some o => (List.range (ops.size - 1)).all fun i => o.after.any fun e => Region.binds md e && e.on == i
theorem lastB_spec (h : lastB md ops = true) {o : Oper} (ho : ops[ops.size - 1]? = some o) (i : Nat) (hi : i < ops.size - 1) : ∃ e ∈ o.after, Region.binds md e = true ∧ e.on = i := by
  unfold lastB at h
  rw [ho] at h
  have h1 := List.all_eq_true.1 h i (List.mem_range.2 hi)
  obtain ⟨k, hk, hk2⟩ := Array.any_eq_true'.1 h1
  simp only [Bool.and_eq_true, beq_iff_eq] at hk2
  exact ⟨k, hk, hk2.1, hk2.2⟩
/-- What stands when only the last one is left. -/
structure RLast (ops : Array Oper) (F : Nat → Value → World → Prop) (w0 : World) (a0 : Act) (a : Act) (w : World) : Prop where
  q : Below w0.heap.size w0 w
  size : a.tmps.size = a0.tmps.size
  defers : a.defers = a0.defers
  frame : ∀ d, (∀ (i : Nat) o, ops[i]? = some o → o.dst ≠ some d) → a.tmps.getD d undef = a0.tmps.getD d undef
  fact : ∀ (i : Nat) o d, i < ops.size - 1 → ops[i]? = some o → o.dst = some d → F i (a.tmps.getD d undef) w
theorem wpAny_all_done {fuel : Nat} {listed : Array Bool} {a : Act} {w : World} (hs : listed.size = ops.size) (hl : ∀ i, i < ops.size → listed.getD i false = true) (h : Qx .normal a w) : wpAny P md ops Qx fuel listed a w := by
  have hr : Region.ready md ops listed = [] := by
    refine List.eq_nil_iff_forall_not_mem.2 fun i hi => ?_
    obtain ⟨h1, o, ho, _⟩ := mem_ready.1 hi
    have hlt := (Array.getElem?_eq_some_iff.1 ho).1
    have h2 := hl i hlt
    have hs' : i < listed.size := by rw [hs]; exact hlt
    simp [hs'] at h1 h2
    rw [h1] at h2; cases h2
  cases fuel with
  | zero => exact ⟨hr, h⟩
  | succ f => exact ⟨fun _ => h, fun i hi => by rw [hr] at hi; cases hi⟩
theorem region_any_tail {F : Nat → Value → World → Prop} {w0 : World} {a0 : Act} (hB : regionB ops a0.tmps.size = true) (hL : lastB md ops = true) (hF : ∀ i v w w', F i v w → Below w.heap.size w w' → F i v w')
    (hs : StepsOk P md ops F w0 a0 (ops.toList.take (ops.size - 1)) 0) (o : Oper) (ho : ops[ops.size - 1]? = some o)
    (hend : ∀ a w, RLast ops F w0 a0 a w → ∀ K : Act → World → Prop, (∀ a' w', Qx .normal a' w' → K a' w') → Region.wanted o (yielded ops a.tmps) = true ∧ o.wp P a w K Qx) :
    ∀ (fuel : Nat) (listed : Array Bool) (a : Act) (w : World), RInv ops F w0 a0 listed a w → listed.getD (ops.size - 1) true = false → ((List.range ops.size).filter fun i => !listed.getD i false).length ≤ fuel → wpAny P md ops Qx fuel listed a w := by
  have hsz : ops.size - 1 < ops.size := (Array.getElem?_eq_some_iff.1 ho).1
  intro fuel
  induction fuel with
  | zero =>
    intro listed a w inv hlast hc
    exfalso
    have h0 := List.eq_nil_of_length_eq_zero (Nat.le_zero.1 hc)
    have h1 := List.filter_eq_nil_iff.1 h0 (ops.size - 1) (List.mem_range.2 hsz)
    have hs' : ops.size - 1 < listed.size := by rw [inv.lsize]; exact hsz
    simp [hs'] at hlast h1
    rw [hlast] at h1; simp at h1
  | succ fuel ih =>
    intro listed a w inv hlast hc
    have hll : ops.size - 1 < listed.size := by rw [inv.lsize]; exact hsz
    have hlf : listed.getD (ops.size - 1) false = false := by simp [hll] at hlast ⊢; exact hlast
    refine ⟨fun hr => ?_, fun i hi => ?_⟩
    · have := inv.all hB hr (ops.size - 1) hsz
      rw [hlf] at this; cases this
    · obtain ⟨hun, oi, hoi, haf⟩ := mem_ready.1 hi
      have hlt : i < ops.size := (Array.getElem?_eq_some_iff.1 hoi).1
      by_cases hil : i = ops.size - 1
      · subst hil
        have : oi = o := Option.some.inj (hoi.symm.trans ho)
        subst this
        have hall : ∀ j, j < ops.size - 1 → listed.getD j false = true := fun j hj => by
          obtain ⟨e, he, hb, hon⟩ := lastB_spec hL ho j hj
          rw [← hon]; exact haf e he hb
        have hdone : ∀ a' w', Qx .normal a' w' → wpAny P md ops Qx fuel (listed.setIfInBounds (ops.size - 1) true) a' w' := fun a' w' hq =>
          wpAny_all_done (by simpa using inv.lsize) (fun j hj => by
            by_cases hjl : ops.size - 1 = j
            · subst hjl; simp [hll]
            · rw [getD_set_ne false hjl]; exact hall j (by omega)) hq
        obtain ⟨hw, hwp⟩ := hend a w ⟨inv.q, inv.size, inv.defers, inv.frame, fun j oj d hj hoj hd => inv.fact j oj d hoj hd (hall j hj)⟩ _ hdone
        unfold wpOp
        simp only [ho]
        rw [if_pos hw]
        exact .inl hwp
      · have hls : i < listed.size := by rw [inv.lsize]; exact hlt
        have hfalse : listed.getD i false = false := by simp [hls] at hun ⊢; exact hun
        obtain ⟨hb1, hb2, hb3⟩ := regionB_spec hB hoi
        have hst := StepsOk.at_ hs (i := i) (o := oi) (by rw [List.getElem?_take, if_pos (by omega), Array.getElem?_toList]; exact hoi)
        rw [Nat.zero_add] at hst
        have hcnt : ((List.range ops.size).filter fun j => !(listed.setIfInBounds i true).getD j false).length ≤ fuel := by
          have : ((List.range ops.size).filter fun j => !(listed.setIfInBounds i true).getD j false).length < ((List.range ops.size).filter fun j => !listed.getD j false).length := by
            refine filter_lt (i := i) (by rw [hfalse]; rfl) (by simp [hls]) (fun j _ hj => ?_) (List.mem_range.2 hlt)
            by_cases hij : i = j
            · subst hij; rw [hfalse]; rfl
            · rwa [getD_set_ne false hij] at hj
          omega
        have next : ∀ v w', Below w.heap.size w w' → F i v w' → wpAny P md ops Qx fuel (listed.setIfInBounds i true) (a.put oi.dst v) w' := fun v w' hq hf => by
          refine ih _ _ _ ⟨inv.q.trans (hq.mono inv.q.size), by simpa using inv.lsize, ?_, ?_, fun d hd => ?_, fun j oj d hj hjd hl => ?_⟩ (by rw [getD_set_ne true hil]; exact hlast) hcnt
          · cases hd : oi.dst <;> simp [Act.put, hd, inv.size]
          · cases hd : oi.dst <;> simp [Act.put, hd, inv.defers]
          · rw [← inv.frame d hd]
            cases hod : oi.dst with
            | none => rfl
            | some d' =>
              have hne : d' ≠ d := fun h => hd i oi hoi (h ▸ hod)
              simp only [Act.put, Array.getD_eq_getD_getElem?]
              rw [Array.getElem?_setIfInBounds_ne hne]
          · by_cases hij : i = j
            · subst hij
              have : oj = oi := Option.some.inj (hj.symm.trans hoi)
              subst this
              have hdn := hb2 d hjd
              rw [← inv.size] at hdn
              rw [hjd]
              simp only [Act.put, Array.getD_eq_getD_getElem?]
              rw [Array.getElem?_setIfInBounds_self_of_lt hdn]
              exact hf
            · rw [getD_set_ne false hij] at hl
              have h1 := hF j _ w w' (inv.fact j oj d hj hjd hl) hq
              have e : (a.put oi.dst v).tmps.getD d undef = a.tmps.getD d undef := by
                cases hod : oi.dst with
                | none => rfl
                | some d' =>
                  have hne : d' ≠ d := fun h => hij (hb3 j oj d hj hjd (h ▸ hod))
                  simp only [Act.put, Array.getD_eq_getD_getElem?]
                  rw [Array.getElem?_setIfInBounds_ne hne]
              rw [e]; exact h1
        have hfa := hst a w inv.q inv.frame (fun j hj oj d hoj hod => by
          obtain ⟨k, hk, hk2⟩ := Array.any_eq_true'.1 hj
          simp only [Bool.and_eq_true, beq_iff_eq] at hk2
          refine inv.fact j oj d hoj hod ?_
          rw [← hk2.2]
          exact haf k hk hk2.1)
        unfold wpOp
        simp only [hoi]
        rcases hfa with ⟨hw, hdo⟩ | ⟨hw, hf⟩
        · rw [if_pos hw]
          exact .inl (hdo _ _ fun v w' h => next v w' h.1 h.2)
        · rw [if_neg (by rw [hw]; exact Bool.false_ne_true)]
          exact next undef w (Below.refl _ _) hf
end
theorem wp_region_facts_tail {P : Program} {id : Nat} {ops : Array Oper} {Q : Exit → Act → World → Prop} {a0 : Act} {w : World} (hm : P.follows .mixedOrders = true) (hB : regionB ops a0.tmps.size = true) (hL : lastB .any ops = true) (o : Oper) (ho : ops[ops.size - 1]? = some o)
    (F : Nat → Value → World → Prop) (hF : ∀ i v w w', F i v w → Below w.heap.size w w' → F i v w')
    (hs : StepsOk P .any ops F w a0 (ops.toList.take (ops.size - 1)) 0)
    (hend : ∀ a w', RLast ops F w a0 a w' → ∀ K : Act → World → Prop, (∀ a' w'', Q .normal a' w'' → K a' w'') → Region.wanted o (yielded ops a.tmps) = true ∧ o.wp P a w' K Q) : (Code.region id ops true).wp P Q a0 w := by
  have hsz : ops.size - 1 < ops.size := (Array.getElem?_eq_some_iff.1 ho).1
  refine wp_region_any hm (region_any_tail hB hL hF hs o ho hend ops.size _ a0 _ ⟨(Below.refl _ _).drew, by simp, rfl, rfl, fun _ _ => rfl, fun i o d hi _ hl => ?_⟩ (by simp [hsz]) ?_)
  · have hlt : i < ops.size := (Array.getElem?_eq_some_iff.1 hi).1
    simp [hlt] at hl
  · refine Nat.le_trans (List.length_filter_le _ _) ?_
    simp
/-- A struct or an array written as a whole, as a region's last operation. -/
theorem wp_store_all {P : Program} {w : World} {o : Oper} {a : Act} {K : Act → World → Prop} {Q : Exit → Act → World → Prop} (ty : TypeId) (ad x : Operand) (ho : o.op = .store ty ad x) (g : Nat) (had : a.eval ad = .pointer (some ⟨g, 0, none⟩)) (v : Value) (hx : a.eval x = v)
    (n : Nat) (hi : (P.info? ty).map (·.size) = some n) (f' : Nat → Value) (hv : AggIs v n f') (h1 : ∀ i, i < n → (f' i).oneCell' = true)
    (t : TypeId) (f : Nat → Value) (hr : w.rowIs g t n f)
    (h : ∀ w', w'.rowIs g t n f' → Put g w w' → K (a.put o.dst undef) w') : o.wp P a w K Q := by
  obtain ⟨w', hrun, hrow, hput⟩ := run_storeVar_agg (P := P) (w := w) g 0 ty t n hi v f' hv h1 n f hr (by omega)
  have hex : (execOp a.eval o).run P w = .ok .skip w' := by
    unfold execOp
    simp only [ho, had, hx, Instr.storeAt, Instr.sureAddr, Sem.run_bind, Sem.run_pure, Result.andThen_ok, hrun]
  unfold Oper.wp
  rw [hex]
  exact h w' (hrow.congr fun i hi => by rw [if_pos ⟨Nat.zero_le _, by omega⟩]; rfl) hput
/-- A row of one slice of one byte, and more behind it. -/
def HeadRow (x : Nat) (R : List Value) (n : Nat) (u : Value) (w : World) : Prop :=
  ∃ A c g, u = .slice A n c ∧ SeesP w (· < w.heap.size) A (.slice (some ⟨g, 0, none⟩) 1 1 :: R) ∧ SeesP w (· < w.heap.size) (some ⟨g, 0, none⟩) [B8 x] ∧ (A = none → c = 0)
theorem HeadRow.stays (x : Nat) (R : List Value) (n : Nat) (u : Value) (w w' : World) (h : HeadRow x R n u w) (hq : Below w.heap.size w w') : HeadRow x R n u w' := by
  obtain ⟨A, c, g, h1, h2, h3, h4⟩ := h
  exact ⟨A, c, g, h1, (h2.belowP (fun _ h => h) hq).more fun _ hb => Nat.lt_of_lt_of_le hb hq.size, (h3.belowP (fun _ h => h) hq).more fun _ hb => Nat.lt_of_lt_of_le hb hq.size, h4⟩
end Go.Proofs.YtcdbffgmgfblkaaDoor
