/- A region that draws its order, walked by facts: each operation once, whatever came ahead of it. What an operation yields is a fact that stays as memory grows. -/
import Derived.Test.YtffenfhbiapefaaOwn
import Derived.Orders
namespace Go.Proofs.Ytffenfhbiapefaa
set_option linter.unusedVariables false
set_option linter.unusedSimpArgs false
open Go.RowKit

section
section
variable {P : Program} {ops : Array Oper} {Qx : Exit → Act → World → Prop} {md : Region.Mode}
/-- The operation yields a value of which Post holds. -/
def OpDoes (P : Program) (o : Oper) (a : Act) (w : World) (Post : Value → World → Prop) : Prop :=
  ∀ (K : Act → World → Prop) (Q : Exit → Act → World → Prop), (∀ v w', Post v w' → K (a.put o.dst v) w') → o.wp P a w K Q
theorem OpDoes.run {o : Oper} {a : Act} {w w' : World} {v : Value} {Post : Value → World → Prop} (hr : (execOp a.eval o).run P w = .ok (.value v) w') (h : Post v w') : OpDoes P o a w Post := fun K Q hK => by
  unfold Oper.wp; rw [hr]; exact hK v w' h
theorem OpDoes.call {o : Oper} {a : Act} {w w' : World} {f : FuncId} {args : Array Value} {Post : Value → World → Prop} (hr : (execOp a.eval o).run P w = .ok (.enter f args) w') (h : Calls P f args w' fun e w'' => ∃ v, e = .returned v ∧ Post v w'') : OpDoes P o a w Post := fun K Q hK => by
  unfold Oper.wp; rw [hr]
  refine Calls.mono h ?_
  rintro e w'' ⟨v, rfl, h⟩
  exact hK v w'' h

theorem filter_lt {p q : Nat → Bool} {i : Nat} (hp : p i = true) (hq : q i = false) : ∀ {l : List Nat}, (∀ j ∈ l, q j = true → p j = true) → i ∈ l → (l.filter q).length < (l.filter p).length
  | [], _, hi => by cases hi
  | x :: l, h, hi => by
    have hle : ∀ {l : List Nat}, (∀ j ∈ l, q j = true → p j = true) → (l.filter q).length ≤ (l.filter p).length := fun {l} h => by
      induction l with
      | nil => simp
      | cons y l ih =>
        have h1 := h y (by simp)
        have h2 := ih fun j hj => h j (by simp [hj])
        rw [List.filter_cons, List.filter_cons]
        cases hy : q y
        · cases p y <;> simp <;> omega
        · rw [h1 hy]; simp; omega
    have ht := fun j (hj : j ∈ l) => h j (List.mem_cons_of_mem _ hj)
    rcases List.mem_cons.1 hi with rfl | hi
    · rw [List.filter_cons, List.filter_cons, hp, hq]
      have := hle ht
      simp; omega
    · have h2 := filter_lt hp hq ht hi
      have h1 := h x (by simp)
      rw [List.filter_cons, List.filter_cons]
      cases hx : q x
      · cases p x <;> simp <;> omega
      · rw [h1 hx]; simp; omega

/-- What stands while the region is under way. -/
structure RInv (ops : Array Oper) (F : Nat → Value → World → Prop) (w0 : World) (a0 : Act) (listed : Array Bool) (a : Act) (w : World) : Prop where
  q : Below w0.heap.size w0 w
  lsize : listed.size = ops.size
  size : a.tmps.size = a0.tmps.size
  defers : a.defers = a0.defers
  frame : ∀ d, (∀ (i : Nat) o, ops[i]? = some o → o.dst ≠ some d) → a.tmps.getD d undef = a0.tmps.getD d undef
  fact : ∀ (i : Nat) o d, ops[i]? = some o → o.dst = some d → listed.getD i false = true → F i (a.tmps.getD d undef) w
/-- What one operation must do. -/
def StepOk (P : Program) (md : Region.Mode) (ops : Array Oper) (F : Nat → Value → World → Prop) (w0 : World) (a0 : Act) (i : Nat) (o : Oper) : Prop :=
  ∀ a w, Below w0.heap.size w0 w → (∀ d, (∀ (i : Nat) o, ops[i]? = some o → o.dst ≠ some d) → a.tmps.getD d undef = a0.tmps.getD d undef) →
    (∀ j, (o.after.any fun e => Region.binds md e && e.on == j) = true → ∀ oj d, ops[j]? = some oj → oj.dst = some d → F j (a.tmps.getD d undef) w) →
    (Region.wanted o (yielded ops a.tmps) = true ∧ OpDoes P o a w fun v w' => Below w.heap.size w w' ∧ F i v w') ∨ (Region.wanted o (yielded ops a.tmps) = false ∧ F i undef w)
def StepsOk (P : Program) (md : Region.Mode) (ops : Array Oper) (F : Nat → Value → World → Prop) (w0 : World) (a0 : Act) : List Oper → Nat → Prop
  | [], _ => True
  | o :: l, i => StepOk P md ops F w0 a0 i o ∧ StepsOk P md ops F w0 a0 l (i + 1)
theorem StepsOk.at_ {F : Nat → Value → World → Prop} {w0 : World} {a0 : Act} : ∀ {l : List Oper} {k : Nat}, StepsOk P md ops F w0 a0 l k → ∀ {i : Nat} {o : Oper}, l[i]? = some o → StepOk P md ops F w0 a0 (k + i) o
  | [], _, _, i, o, h => by cases i <;> cases h
  | x :: l, k, h, 0, o, hi => by simp at hi; subst hi; exact h.1
  | x :: l, k, h, i + 1, o, hi => by
    have := StepsOk.at_ h.2 (i := i) (o := o) (by simpa using hi)
    rwa [show k + 1 + i = k + (i + 1) by omega] at this

/-- No slot is written twice; each operation waits for earlier ones alone; each slot lies in the frame. -/
def regionB (ops : Array Oper) (n : Nat) : Bool :=
  (List.range ops.size).all fun i =>
    match ops[i]? with
    | none => true
    | some o => (o.after.all fun e => decide (e.on < i)) && (match o.dst with | none => true | some d => decide (d < n)) &&
      (List.range ops.size).all fun j =>
        match ops[j]? with
        | none => true
        | some oj => i == j || oj.dst.isNone || !(o.dst == oj.dst)
theorem regionB_spec {n : Nat} (h : regionB ops n = true) {i : Nat} {o : Oper} (hi : ops[i]? = some o) :
    (∀ e ∈ o.after, e.on < i) ∧ (∀ d, o.dst = some d → d < n) ∧ ∀ (j : Nat) oj d, ops[j]? = some oj → oj.dst = some d → o.dst = some d → i = j := by
  have hlt : i < ops.size := (Array.getElem?_eq_some_iff.1 hi).1
  have h1 := List.all_eq_true.1 h i (List.mem_range.2 hlt)
  simp only [hi, Bool.and_eq_true] at h1
  obtain ⟨⟨h2, h3⟩, h4⟩ := h1
  refine ⟨fun e he => ?_, fun d hd => ?_, fun j oj d hj hjd hd => ?_⟩
  · have := Array.all_eq_true_iff_forall_mem.1 h2 e he
    exact of_decide_eq_true this
  · rw [hd] at h3; exact of_decide_eq_true h3
  · have hjlt : j < ops.size := (Array.getElem?_eq_some_iff.1 hj).1
    have h5 := List.all_eq_true.1 h4 j (List.mem_range.2 hjlt)
    simp only [hj, Bool.or_eq_true, beq_iff_eq] at h5
    rcases h5 with (h5 | h5) | h5
    · exact h5
    · rw [hjd] at h5; cases h5
    · rw [hd, hjd] at h5; simp at h5

theorem RInv.all {F : Nat → Value → World → Prop} {w0 : World} {a0 : Act} (hB : regionB ops a0.tmps.size = true) {listed : Array Bool} {a : Act} {w : World} (inv : RInv ops F w0 a0 listed a w) (hr : Region.ready md ops listed = []) : ∀ i, i < ops.size → listed.getD i false = true := by
  intro i
  induction i using Nat.strongRecOn with
  | _ i ih =>
    intro hi
    cases hl : listed.getD i false with
    | true => rfl
    | false =>
      exfalso
      obtain ⟨o, ho⟩ : ∃ o, ops[i]? = some o := ⟨_, Array.getElem?_eq_getElem hi⟩
      have hm : i ∈ Region.ready md ops listed := mem_ready.2 ⟨by
        have hs : i < listed.size := by rw [inv.lsize]; exact hi
        simp [hs] at hl ⊢; exact hl, o, ho, fun e he _ => by
        have := (regionB_spec hB ho).1 e he
        exact ih e.on this (by omega)⟩
      rw [hr] at hm
      cases hm
theorem region_any {F : Nat → Value → World → Prop} {w0 : World} {a0 : Act} (hB : regionB ops a0.tmps.size = true) (hF : ∀ i v w w', F i v w → Below w.heap.size w w' → F i v w')
    (hs : StepsOk P md ops F w0 a0 ops.toList 0)
    (hend : ∀ a w, RInv ops F w0 a0 (Array.replicate ops.size true) a w → Qx .normal a w) :
    ∀ (fuel : Nat) (listed : Array Bool) (a : Act) (w : World), RInv ops F w0 a0 listed a w → ((List.range ops.size).filter fun i => !listed.getD i false).length ≤ fuel → wpAny P md ops Qx fuel listed a w := by
  have done : ∀ (listed : Array Bool) (a : Act) (w : World), RInv ops F w0 a0 listed a w → (∀ i, i < ops.size → listed.getD i false = true) → Qx .normal a w := fun listed a w inv h =>
    hend a w ⟨inv.q, by simp, inv.size, inv.defers, inv.frame, fun i o d hi hd _ => inv.fact i o d hi hd (h i (Array.getElem?_eq_some_iff.1 hi).1)⟩
  intro fuel
  induction fuel with
  | zero =>
    intro listed a w inv hc
    have hall : ∀ i, i < ops.size → listed.getD i false = true := fun i hi => by
      have h0 := List.eq_nil_of_length_eq_zero (Nat.le_zero.1 hc)
      have h1 := List.filter_eq_nil_iff.1 h0 i (List.mem_range.2 hi)
      cases h : listed.getD i false
      · rw [h] at h1; simp at h1
      · rfl
    refine ⟨?_, done listed a w inv hall⟩
    refine List.eq_nil_iff_forall_not_mem.2 fun i hi => ?_
    obtain ⟨h1, o, ho, _⟩ := mem_ready.1 hi
    have h2 := hall i (Array.getElem?_eq_some_iff.1 ho).1
    have hs : i < listed.size := by rw [inv.lsize]; exact (Array.getElem?_eq_some_iff.1 ho).1
    simp [hs] at h1 h2
    rw [h1] at h2; cases h2
  | succ fuel ih =>
    intro listed a w inv hc
    refine ⟨fun hr => done listed a w inv (inv.all hB hr), fun i hi => ?_⟩
    obtain ⟨hun, o, ho, haf⟩ := mem_ready.1 hi
    have hlt : i < ops.size := (Array.getElem?_eq_some_iff.1 ho).1
    have hls : i < listed.size := by rw [inv.lsize]; exact hlt
    have hfalse : listed.getD i false = false := by simp [hls] at hun ⊢; exact hun
    obtain ⟨hb1, hb2, hb3⟩ := regionB_spec hB ho
    have hst := StepsOk.at_ hs (i := i) (o := o) (by rw [Array.getElem?_toList]; exact ho)
    rw [Nat.zero_add] at hst
    have hcnt : ((List.range ops.size).filter fun j => !(listed.setIfInBounds i true).getD j false).length ≤ fuel := by
      have : ((List.range ops.size).filter fun j => !(listed.setIfInBounds i true).getD j false).length < ((List.range ops.size).filter fun j => !listed.getD j false).length := by
        refine filter_lt (i := i) (by rw [hfalse]; rfl) (by simp [hls]) (fun j _ hj => ?_) (List.mem_range.2 hlt)
        by_cases hij : i = j
        · subst hij; rw [hfalse]; rfl
        · rwa [getD_set_ne false hij] at hj
      omega
    have next : ∀ v w', Below w.heap.size w w' → F i v w' → wpAny P md ops Qx fuel (listed.setIfInBounds i true) (a.put o.dst v) w' := fun v w' hq hf => by
      refine ih _ _ _ ⟨inv.q.trans (hq.mono inv.q.size), by simpa using inv.lsize, ?_, ?_, fun d hd => ?_, fun j oj d hj hjd hl => ?_⟩ hcnt
      · cases hd : o.dst <;> simp [Act.put, hd, inv.size]
      · cases hd : o.dst <;> simp [Act.put, hd, inv.defers]
      · rw [← inv.frame d hd]
        cases hod : o.dst with
        | none => rfl
        | some d' =>
          have hne : d' ≠ d := fun h => hd i o ho (h ▸ hod)
          simp only [Act.put, Array.getD_eq_getD_getElem?]
          rw [Array.getElem?_setIfInBounds_ne hne]
      · by_cases hij : i = j
        · subst hij
          have : oj = o := Option.some.inj (hj.symm.trans ho)
          subst this
          have hdn := hb2 d hjd
          rw [← inv.size] at hdn
          rw [hjd]
          simp only [Act.put, Array.getD_eq_getD_getElem?]
          rw [Array.getElem?_setIfInBounds_self_of_lt hdn]
          exact hf
        · rw [getD_set_ne false hij] at hl
          have h1 := hF j _ w w' (inv.fact j oj d hj hjd hl) hq
          have e : (a.put o.dst v).tmps.getD d undef = a.tmps.getD d undef := by
            cases hod : o.dst with
            | none => rfl
            | some d' =>
              have hne : d' ≠ d := fun h => hij (hb3 j oj d hj hjd (h ▸ hod))
              simp only [Act.put, Array.getD_eq_getD_getElem?]
              rw [Array.getElem?_setIfInBounds_ne hne]
          rw [e]; exact h1
    have hfa := hst a w inv.q inv.frame (fun j hj oj d hoj hod => by
      obtain ⟨k, hk, hk2⟩ := Array.any_eq_true'.1 hj
      simp only [Bool.and_eq_true, beq_iff_eq] at hk2
      refine inv.fact j oj d hoj hod ?_
      rw [← hk2.2]
      exact haf k hk hk2.1)
    unfold wpOp
    simp only [ho]
    rcases hfa with ⟨hw, hdo⟩ | ⟨hw, hf⟩
    · rw [if_pos hw]
      exact .inl (hdo _ _ fun v w' h => next v w' h.1 h.2)
    · rw [if_neg (by rw [hw]; exact Bool.false_ne_true)]
      exact next undef w (Below.refl _ _) hf
end
theorem wp_region_facts {P : Program} {id : Nat} {ops : Array Oper} {Q : Exit → Act → World → Prop} {a0 : Act} {w : World} (hm : P.follows .mixedOrders = true) (hB : regionB ops a0.tmps.size = true)
    (F : Nat → Value → World → Prop) (hF : ∀ i v w w', F i v w → Below w.heap.size w w' → F i v w')
    (hs : StepsOk P .any ops F w a0 ops.toList 0)
    (hend : ∀ a w', RInv ops F w a0 (Array.replicate ops.size true) a w' → Q .normal a w') : (Code.region id ops true).wp P Q a0 w := by
  refine wp_region_any hm (region_any hB hF hs hend ops.size _ a0 _ ⟨(Below.refl _ _).drew, by simp, rfl, rfl, fun _ _ => rfl, fun i o d hi _ hl => ?_⟩ ?_)
  · have hlt : i < ops.size := (Array.getElem?_eq_some_iff.1 hi).1
    simp [hlt] at hl
  · refine Nat.le_trans (List.length_filter_le _ _) ?_
    simp
/-- A fact of what a slot holds. -/
inductive Fct where
  | any
  | is (v : Value)
  | row (R : List Value)
  | own (base : Nat) (e : TypeId) (R : List Value)
  | that (p : Value → World → Prop) (hp : ∀ v w w', p v w → Below w.heap.size w w' → p v w')
def Fct.holds : Fct → Value → World → Prop
  | .any, _, _ => True
  | .is v, u, _ => u = v
  | .row R, u, w => ∃ g, u = .slice (some ⟨g, 0, none⟩) R.length R.length ∧ SeesP w (· < w.heap.size) (some ⟨g, 0, none⟩) R
  | .own base e R, u, w => base ≤ w.heap.size ∧ w.ownsRow base e 1 u R.length R
  | .that p _, u, w => p u w
theorem Fct.stays : ∀ (f : Fct) (v : Value) (w w' : World), f.holds v w → Below w.heap.size w w' → f.holds v w'
  | .any, _, _, _, _, _ => trivial
  | .is _, _, _, _, h, _ => h
  | .row R, v, w, w', ⟨g, h1, h2⟩, hq => ⟨g, h1, (h2.belowP (fun _ h => h) hq).more fun _ hb => Nat.lt_of_lt_of_le hb hq.size⟩
  | .own base e R, v, w, w', ⟨hb, h⟩, hq => ⟨Nat.le_trans hb hq.size, own_below h hq⟩
  | .that _ hp, v, w, w', h, hq => hp v w w' h hq
def factsOf (fs : List Fct) (i : Nat) : Value → World → Prop := (fs.getD i .any).holds
theorem factsOf_stays (fs : List Fct) (i : Nat) (v : Value) (w w' : World) (h : factsOf fs i v w) (hq : Below w.heap.size w w') : factsOf fs i v w' := Fct.stays _ v w w' h hq
/-- No operation writes slot d. -/
def noDst (ops : Array Oper) (d : Nat) : Bool := ops.all fun o => !(o.dst == some d)
theorem noDst_spec {ops : Array Oper} {d : Nat} (h : noDst ops d = true) (i : Nat) (o : Oper) (hi : ops[i]? = some o) : o.dst ≠ some d := by
  have h1 := Array.all_eq_true_iff_forall_mem.1 h o (Array.mem_of_getElem? hi)
  intro e
  rw [e] at h1
  simp at h1
theorem getD_form (xs : Array Value) (d : Nat) : xs.getD d undef = xs[d]?.getD undef := Array.getD_eq_getD_getElem?
theorem wanted_free {o : Oper} {y : Nat → Option Bool} (h : o.guard = none) : Region.wanted o y = true := by unfold Region.wanted; rw [h]
theorem wanted_on {o : Oper} {ops : Array Oper} {a : Act} {g d : Nat} {og : Oper} {b : Bool} (h : o.guard = some (g, b)) (hg : ops[g]? = some og) (hd : og.dst = some d) (hv : a.tmps.getD d undef = .bool b) : Region.wanted o (yielded ops a.tmps) = true := by
  have h2 : a.tmps[d]? = some (.bool b) := by
    rw [Array.getD_eq_getD_getElem?] at hv
    rcases ht : a.tmps[d]? with _ | u
    · rw [ht] at hv; cases hv
    · rw [ht] at hv; exact congrArg some hv
  unfold Region.wanted
  rw [h]
  simp [yielded, hg, hd, h2]
end

section
section
variable {P : Program} {ops : Array Oper} {Qx : Exit → Act → World → Prop} {md : Region.Mode}
/-- What stands while the region is under way. -/
structure RInvG (md : Region.Mode) (ops : Array Oper) (F : Nat → Value → World → Prop) (w0 : World) (a0 : Act) (listed : Array Bool) (a : Act) (w : World) : Prop where
  q : Below w0.heap.size w0 w
  lsize : listed.size = ops.size
  size : a.tmps.size = a0.tmps.size
  defers : a.defers = a0.defers
  frame : ∀ d, (∀ (i : Nat) o, ops[i]? = some o → o.dst = some d → listed.getD i false = false) → a.tmps.getD d undef = a0.tmps.getD d undef
  closed : ∀ (j : Nat) o, ops[j]? = some o → listed.getD j false = true → ∀ e ∈ o.after, Region.binds md e = true → listed.getD e.on false = true
  fact : ∀ (i : Nat) o d, ops[i]? = some o → o.dst = some d → listed.getD i false = true → F i (a.tmps.getD d undef) w
/-- Each operation that writes slot d waits for operation i. -/
def waitsB (md : Region.Mode) (ops : Array Oper) (i d : Nat) : Bool :=
  (List.range ops.size).all fun j =>
    match ops[j]? with
    | none => true
    | some o => !(o.dst == some d) || o.after.any fun e => Region.binds md e && e.on == i
theorem waitsB_spec {i d : Nat} (h : waitsB md ops i d = true) {j : Nat} {o : Oper} (hj : ops[j]? = some o) (hd : o.dst = some d) : ∃ e ∈ o.after, Region.binds md e = true ∧ e.on = i := by
  have hlt : j < ops.size := (Array.getElem?_eq_some_iff.1 hj).1
  have h1 := List.all_eq_true.1 h j (List.mem_range.2 hlt)
  simp only [hj, hd, beq_self_eq_true, Bool.not_true, Bool.false_or] at h1
  obtain ⟨k, hk, hk2⟩ := Array.any_eq_true'.1 h1
  simp only [Bool.and_eq_true, beq_iff_eq] at hk2
  exact ⟨k, hk, hk2.1, hk2.2⟩
def StepOkG (P : Program) (md : Region.Mode) (ops : Array Oper) (F : Nat → Value → World → Prop) (w0 : World) (a0 : Act) (i : Nat) (o : Oper) : Prop :=
  ∀ a w, Below w0.heap.size w0 w → (∀ d, waitsB md ops i d = true → a.tmps.getD d undef = a0.tmps.getD d undef) →
    (∀ j, (o.after.any fun e => Region.binds md e && e.on == j) = true → ∀ oj d, ops[j]? = some oj → oj.dst = some d → F j (a.tmps.getD d undef) w) →
    (Region.wanted o (yielded ops a.tmps) = true ∧ OpDoes P o a w fun v w' => Below w.heap.size w w' ∧ F i v w') ∨ (Region.wanted o (yielded ops a.tmps) = false ∧ F i undef w)
def StepsOkG (P : Program) (md : Region.Mode) (ops : Array Oper) (F : Nat → Value → World → Prop) (w0 : World) (a0 : Act) : List Oper → Nat → Prop
  | [], _ => True
  | o :: l, i => StepOkG P md ops F w0 a0 i o ∧ StepsOkG P md ops F w0 a0 l (i + 1)
theorem StepsOkG.at_ {F : Nat → Value → World → Prop} {w0 : World} {a0 : Act} : ∀ {l : List Oper} {k : Nat}, StepsOkG P md ops F w0 a0 l k → ∀ {i : Nat} {o : Oper}, l[i]? = some o → StepOkG P md ops F w0 a0 (k + i) o
  | [], _, _, i, o, h => by cases i <;> cases h
  | x :: l, k, h, 0, o, hi => by simp at hi; subst hi; exact h.1
  | x :: l, k, h, i + 1, o, hi => by
    have := StepsOkG.at_ h.2 (i := i) (o := o) (by simpa using hi)
    rwa [show k + 1 + i = k + (i + 1) by omega] at this

theorem RInvG.all {F : Nat → Value → World → Prop} {w0 : World} {a0 : Act} (hB : regionB ops a0.tmps.size = true) {listed : Array Bool} {a : Act} {w : World} (inv : RInvG md ops F w0 a0 listed a w) (hr : Region.ready md ops listed = []) : ∀ i, i < ops.size → listed.getD i false = true := by
  intro i
  induction i using Nat.strongRecOn with
  | _ i ih =>
    intro hi
    cases hl : listed.getD i false with
    | true => rfl
    | false =>
      exfalso
      obtain ⟨o, ho⟩ : ∃ o, ops[i]? = some o := ⟨_, Array.getElem?_eq_getElem hi⟩
      have hm : i ∈ Region.ready md ops listed := mem_ready.2 ⟨by
        have hs : i < listed.size := by rw [inv.lsize]; exact hi
        simp [hs] at hl ⊢; exact hl, o, ho, fun e he _ => by
        have := (regionB_spec hB ho).1 e he
        exact ih e.on this (by omega)⟩
      rw [hr] at hm
      cases hm
theorem region_anyG {F : Nat → Value → World → Prop} {w0 : World} {a0 : Act} (hB : regionB ops a0.tmps.size = true) (hF : ∀ i v w w', F i v w → Below w.heap.size w w' → F i v w')
    (hs : StepsOkG P md ops F w0 a0 ops.toList 0)
    (hend : ∀ a w, RInvG md ops F w0 a0 (Array.replicate ops.size true) a w → Qx .normal a w) :
    ∀ (fuel : Nat) (listed : Array Bool) (a : Act) (w : World), RInvG md ops F w0 a0 listed a w → ((List.range ops.size).filter fun i => !listed.getD i false).length ≤ fuel → wpAny P md ops Qx fuel listed a w := by
  have done : ∀ (listed : Array Bool) (a : Act) (w : World), RInvG md ops F w0 a0 listed a w → (∀ i, i < ops.size → listed.getD i false = true) → Qx .normal a w := fun listed a w inv h =>
    hend a w ⟨inv.q, by simp, inv.size, inv.defers, fun d hd => inv.frame d fun i o hi hid => by
      have h1 := hd i o hi hid
      have hlt := (Array.getElem?_eq_some_iff.1 hi).1
      simp [hlt] at h1, fun j o hj _ e he hb => inv.closed j o hj (h j (Array.getElem?_eq_some_iff.1 hj).1) e he hb |> fun h' => by
      have hlt : e.on < ops.size := by
        have h2 := (regionB_spec hB hj).1 e he
        have h3 := (Array.getElem?_eq_some_iff.1 hj).1
        omega
      simp [hlt], fun i o d hi hd _ => inv.fact i o d hi hd (h i (Array.getElem?_eq_some_iff.1 hi).1)⟩
  intro fuel
  induction fuel with
  | zero =>
    intro listed a w inv hc
    have hall : ∀ i, i < ops.size → listed.getD i false = true := fun i hi => by
      have h0 := List.eq_nil_of_length_eq_zero (Nat.le_zero.1 hc)
      have h1 := List.filter_eq_nil_iff.1 h0 i (List.mem_range.2 hi)
      cases h : listed.getD i false
      · rw [h] at h1; simp at h1
      · rfl
    refine ⟨?_, done listed a w inv hall⟩
    refine List.eq_nil_iff_forall_not_mem.2 fun i hi => ?_
    obtain ⟨h1, o, ho, _⟩ := mem_ready.1 hi
    have h2 := hall i (Array.getElem?_eq_some_iff.1 ho).1
    have hs : i < listed.size := by rw [inv.lsize]; exact (Array.getElem?_eq_some_iff.1 ho).1
    simp [hs] at h1 h2
    rw [h1] at h2; cases h2
  | succ fuel ih =>
    intro listed a w inv hc
    refine ⟨fun hr => done listed a w inv (inv.all hB hr), fun i hi => ?_⟩
    obtain ⟨hun, o, ho, haf⟩ := mem_ready.1 hi
    have hlt : i < ops.size := (Array.getElem?_eq_some_iff.1 ho).1
    have hls : i < listed.size := by rw [inv.lsize]; exact hlt
    have hfalse : listed.getD i false = false := by simp [hls] at hun ⊢; exact hun
    obtain ⟨hb1, hb2, hb3⟩ := regionB_spec hB ho
    have hst := StepsOkG.at_ hs (i := i) (o := o) (by rw [Array.getElem?_toList]; exact ho)
    rw [Nat.zero_add] at hst
    have hcnt : ((List.range ops.size).filter fun j => !(listed.setIfInBounds i true).getD j false).length ≤ fuel := by
      have : ((List.range ops.size).filter fun j => !(listed.setIfInBounds i true).getD j false).length < ((List.range ops.size).filter fun j => !listed.getD j false).length := by
        refine filter_lt (i := i) (by rw [hfalse]; rfl) (by simp [hls]) (fun j _ hj => ?_) (List.mem_range.2 hlt)
        by_cases hij : i = j
        · subst hij; rw [hfalse]; rfl
        · rwa [getD_set_ne false hij] at hj
      omega
    have next : ∀ v w', Below w.heap.size w w' → F i v w' → wpAny P md ops Qx fuel (listed.setIfInBounds i true) (a.put o.dst v) w' := fun v w' hq hf => by
      refine ih _ _ _ ⟨inv.q.trans (hq.mono inv.q.size), by simpa using inv.lsize, ?_, ?_, fun d hd => ?_, fun j oj hj hl e he hb => ?_, fun j oj d hj hjd hl => ?_⟩ hcnt
      · cases hd : o.dst <;> simp [Act.put, hd, inv.size]
      · cases hd : o.dst <;> simp [Act.put, hd, inv.defers]
      · rw [← inv.frame d fun j oj hj hjd => by
          have h1 := hd j oj hj hjd
          by_cases hij : i = j
          · subst hij; simp [hls] at h1
          · rwa [getD_set_ne false hij] at h1]
        cases hod : o.dst with
        | none => rfl
        | some d' =>
          have hne : d' ≠ d := fun h => by
            have h1 := hd i o ho (h ▸ hod)
            simp [hls] at h1
          simp only [Act.put, Array.getD_eq_getD_getElem?]
          rw [Array.getElem?_setIfInBounds_ne hne]
      · have hdep : listed.getD e.on false = true := by
          by_cases hij : i = j
          · subst hij
            have : oj = o := Option.some.inj (hj.symm.trans ho)
            subst this
            exact haf e he hb
          · rw [getD_set_ne false hij] at hl
            exact inv.closed j oj hj hl e he hb
        have hne : i ≠ e.on := fun h => by rw [← h, hfalse] at hdep; cases hdep
        rw [getD_set_ne false hne]; exact hdep
      · by_cases hij : i = j
        · subst hij
          have : oj = o := Option.some.inj (hj.symm.trans ho)
          subst this
          have hdn := hb2 d hjd
          rw [← inv.size] at hdn
          rw [hjd]
          simp only [Act.put, Array.getD_eq_getD_getElem?]
          rw [Array.getElem?_setIfInBounds_self_of_lt hdn]
          exact hf
        · rw [getD_set_ne false hij] at hl
          have h1 := hF j _ w w' (inv.fact j oj d hj hjd hl) hq
          have e : (a.put o.dst v).tmps.getD d undef = a.tmps.getD d undef := by
            cases hod : o.dst with
            | none => rfl
            | some d' =>
              have hne : d' ≠ d := fun h => hij (hb3 j oj d hj hjd (h ▸ hod))
              simp only [Act.put, Array.getD_eq_getD_getElem?]
              rw [Array.getElem?_setIfInBounds_ne hne]
          rw [e]; exact h1
    have hfa := hst a w inv.q (fun d hd => inv.frame d fun j oj hj hjd => by
      cases hl : listed.getD j false with
      | false => rfl
      | true =>
        exfalso
        obtain ⟨e, he, hb, hon⟩ := waitsB_spec hd hj hjd
        have := inv.closed j oj hj hl e he hb
        rw [hon, hfalse] at this; cases this) (fun j hj oj d hoj hod => by
      obtain ⟨k, hk, hk2⟩ := Array.any_eq_true'.1 hj
      simp only [Bool.and_eq_true, beq_iff_eq] at hk2
      refine inv.fact j oj d hoj hod ?_
      rw [← hk2.2]
      exact haf k hk hk2.1)
    unfold wpOp
    simp only [ho]
    rcases hfa with ⟨hw, hdo⟩ | ⟨hw, hf⟩
    · rw [if_pos hw]
      exact .inl (hdo _ _ fun v w' h => next v w' h.1 h.2)
    · rw [if_neg (by rw [hw]; exact Bool.false_ne_true)]
      exact next undef w (Below.refl _ _) hf
end
theorem wp_region_factsG {P : Program} {id : Nat} {ops : Array Oper} {Q : Exit → Act → World → Prop} {a0 : Act} {w : World} (hm : P.follows .mixedOrders = true) (hB : regionB ops a0.tmps.size = true)
    (F : Nat → Value → World → Prop) (hF : ∀ i v w w', F i v w → Below w.heap.size w w' → F i v w')
    (hs : StepsOkG P .any ops F w a0 ops.toList 0)
    (hend : ∀ a w', RInvG .any ops F w a0 (Array.replicate ops.size true) a w' → Q .normal a w') : (Code.region id ops true).wp P Q a0 w := by
  refine wp_region_any hm (region_anyG hB hF hs hend ops.size _ a0 _ ⟨(Below.refl _ _).drew, by simp, rfl, rfl, fun _ _ => rfl, fun j o hj hl => ?_, fun i o d hi _ hl => ?_⟩ ?_)
  · have hlt : j < ops.size := (Array.getElem?_eq_some_iff.1 hj).1
    simp [hlt] at hl
  · have hlt : i < ops.size := (Array.getElem?_eq_some_iff.1 hi).1
    simp [hlt] at hl
  · refine Nat.le_trans (List.length_filter_le _ _) ?_
    simp
/-- The slots that the operations write, filled. -/
def fillSlots (us : Nat → Value) : List Oper → Array Value → Array Value
  | [], base => base
  | o :: l, base => fillSlots us l (match o.dst with | none => base | some d => base.setIfInBounds d (us d))
theorem fillSlots_size (us : Nat → Value) : ∀ (l : List Oper) (base : Array Value), (fillSlots us l base).size = base.size
  | [], _ => rfl
  | o :: l, base => by
    rw [fillSlots, fillSlots_size us l]
    cases o.dst <;> simp
theorem fillSlots_no (us : Nat → Value) (d : Nat) : ∀ (l : List Oper) (base : Array Value), (∀ o ∈ l, o.dst ≠ some d) → (fillSlots us l base)[d]? = base[d]?
  | [], _, _ => rfl
  | o :: l, base, h => by
    rw [fillSlots, fillSlots_no us d l _ (fun o' ho' => h o' (List.mem_cons_of_mem _ ho'))]
    have h1 := h o (by simp)
    cases hd : o.dst with
    | none => rfl
    | some d' => exact Array.getElem?_setIfInBounds_ne (fun e => h1 (by rw [hd, e]))
theorem fillSlots_yes (us : Nat → Value) (d : Nat) : ∀ (l : List Oper) (base : Array Value), (∃ o ∈ l, o.dst = some d) → d < base.size → (fillSlots us l base)[d]? = some (us d)
  | [], _, h, _ => by obtain ⟨o, ho, _⟩ := h; cases ho
  | o :: l, base, h, hlt => by
    rw [fillSlots]
    by_cases h2 : ∃ o' ∈ l, o'.dst = some d
    · exact fillSlots_yes us d l _ h2 (by cases o.dst <;> simpa using hlt)
    · rw [fillSlots_no us d l _ (fun o' ho' he => h2 ⟨o', ho', he⟩)]
      obtain ⟨o', ho', he⟩ := h
      rcases List.mem_cons.1 ho' with rfl | ho'
      · rw [he]
        exact Array.getElem?_setIfInBounds_self_of_lt hlt
      · exact absurd ⟨o', ho', he⟩ h2
/-- The same, and the frame behind it written out: for code that follows. -/
theorem wp_region_factsL {P : Program} {id : Nat} {ops : Array Oper} {Q : Exit → Act → World → Prop} {a0 : Act} {w : World} (hm : P.follows .mixedOrders = true) (hB : regionB ops a0.tmps.size = true)
    (F : Nat → Value → World → Prop) (hF : ∀ i v w w', F i v w → Below w.heap.size w w' → F i v w')
    (hs : StepsOkG P .any ops F w a0 ops.toList 0)
    (hend : ∀ (us : Nat → Value) w', Below w.heap.size w w' → (∀ (i : Nat) o d, ops[i]? = some o → o.dst = some d → F i (us d) w') → Q .normal { tmps := fillSlots us ops.toList a0.tmps, defers := a0.defers } w') : (Code.region id ops true).wp P Q a0 w := by
  refine wp_region_factsG hm hB F hF hs fun a w' inv => ?_
  have h := hend (fun d => a.tmps.getD d undef) w' inv.q (fun i o d hi hd => inv.fact i o d hi hd (by
    have hlt : i < ops.size := (Array.getElem?_eq_some_iff.1 hi).1
    simp [hlt]))
  have e : a = { tmps := fillSlots (fun d => a.tmps.getD d undef) ops.toList a0.tmps, defers := a0.defers } := by
    obtain ⟨tm, df⟩ := a
    have hdf : df = a0.defers := inv.defers
    have hsz : tm.size = a0.tmps.size := inv.size
    subst hdf
    congr 1
    refine Array.ext_getElem? fun d => ?_
    by_cases hlt : d < a0.tmps.size
    · by_cases hw : ∃ o ∈ ops.toList, o.dst = some d
      · rw [fillSlots_yes _ d _ _ hw hlt]
        have hd : d < tm.size := by omega
        simp [hd]
      · rw [fillSlots_no _ d _ _ (fun o ho he => hw ⟨o, ho, he⟩)]
        have h1 := inv.frame d (fun i o hi hd => absurd ⟨o, Array.mem_toList_iff.2 (Array.mem_of_getElem? hi), hd⟩ hw)
        have hd : d < tm.size := by omega
        simp only [Array.getD_eq_getD_getElem?] at h1
        rw [Array.getElem?_eq_getElem hd, Array.getElem?_eq_getElem hlt] at h1 ⊢
        exact congrArg some h1
    · rw [Array.getElem?_eq_none (by omega), Array.getElem?_eq_none (by rw [fillSlots_size]; omega)]
  rw [e]
  exact h
end

section
section
variable {P : Program} {ops : Array Oper} {Qx : Exit → Act → World → Prop} {md : Region.Mode}
/-- What operation j waits for. -/
def depsL (md : Region.Mode) (ops : Array Oper) (j : Nat) : List Nat :=
  match ops[j]? with
  | none => []
  | some o => (o.after.toList.filter fun e => Region.binds md e).map (·.on)
/-- .. and what these wait for, from j downwards. -/
def reachL (md : Region.Mode) (ops : Array Oper) : Nat → List Nat → List Nat
  | 0, m => m
  | j + 1, m => reachL md ops j (if m.contains j then m ++ depsL md ops j else m)
def tailB (md : Region.Mode) (ops : Array Oper) (k : Nat) : Bool :=
  (List.range ops.size).all fun t => decide (t < k) || (List.range t).all fun j => (reachL md ops t (depsL md ops t)).contains j
theorem mem_depsL {j x : Nat} : x ∈ depsL md ops j → ∃ o, ops[j]? = some o ∧ ∃ e ∈ o.after, Region.binds md e = true ∧ e.on = x := fun h => by
  unfold depsL at h
  split at h
  · cases h
  · rename_i o ho
    obtain ⟨e, he, rfl⟩ := List.mem_map.1 h
    rw [List.mem_filter] at he
    exact ⟨o, ho, e, Array.mem_toList_iff.1 he.1, he.2, rfl⟩
theorem reachL_sub {L : Nat → Prop} (hc : ∀ (j : Nat) o, ops[j]? = some o → L j → ∀ e ∈ o.after, Region.binds md e = true → L e.on) : ∀ (j : Nat) (m : List Nat), (∀ x ∈ m, L x) → ∀ x ∈ reachL md ops j m, L x
  | 0, m, hm => hm
  | j + 1, m, hm => by
    rw [reachL]
    refine reachL_sub hc j _ fun x hx => ?_
    split at hx
    · rename_i hcn
      rcases List.mem_append.1 hx with hx | hx
      · exact hm x hx
      · obtain ⟨o, ho, e, he, hb, rfl⟩ := mem_depsL hx
        exact hc j o ho (hm j (by simpa using hcn)) e he hb
    · exact hm x hx
/-- Where operation t of the tail is ready all ahead of it are listed. -/
theorem tail_all {k : Nat} (hT : tailB md ops k = true) {listed : Array Bool} (hc : ∀ (j : Nat) o, ops[j]? = some o → listed.getD j false = true → ∀ e ∈ o.after, Region.binds md e = true → listed.getD e.on false = true)
    {t : Nat} {o : Oper} (ho : ops[t]? = some o) (hk : k ≤ t) (hr : ∀ e ∈ o.after, Region.binds md e = true → listed.getD e.on false = true) : ∀ j, j < t → listed.getD j false = true := fun j hj => by
  have hlt : t < ops.size := (Array.getElem?_eq_some_iff.1 ho).1
  have h1 := List.all_eq_true.1 hT t (List.mem_range.2 hlt)
  simp only [Bool.or_eq_true, decide_eq_true_eq] at h1
  rcases h1 with h1 | h1
  · omega
  · have h2 := List.all_eq_true.1 h1 j (List.mem_range.2 hj)
    refine reachL_sub (L := fun j => listed.getD j false = true) hc t _ (fun x hx => ?_) j (by simpa using h2)
    obtain ⟨o', ho', e, he, hb, rfl⟩ := mem_depsL hx
    obtain rfl : o' = o := Option.some.inj (ho'.symm.trans ho)
    exact hr e he hb
/-- The tail, one operation behind the other. -/
theorem any_tail {k : Nat} (hT : tailB md ops k = true) {n : Nat} (hB : regionB ops n = true) : ∀ (fuel t : Nat) (listed : Array Bool) (a : Act) (w : World), k ≤ t → t ≤ ops.size → ops.size ≤ t + fuel → listed.size = ops.size → (∀ j, listed.getD j false = true ↔ j < t) →
    wpList P ops Qx (ops.toList.drop t) a w → wpAny P md ops Qx fuel listed a w := by
  intro fuel
  induction fuel with
  | zero =>
    intro t listed a w hk ht hf hs hl h
    obtain rfl : t = ops.size := by omega
    rw [List.drop_of_length_le (by simp)] at h
    refine ⟨List.eq_nil_iff_forall_not_mem.2 fun i hi => ?_, h⟩
    obtain ⟨h1, o, ho, _⟩ := mem_ready.1 hi
    have hlt := (Array.getElem?_eq_some_iff.1 ho).1
    have h2 := (hl i).2 hlt
    have hs' : i < listed.size := by rw [hs]; exact hlt
    simp [hs'] at h1 h2
    rw [h1] at h2; cases h2
  | succ fuel ih =>
    intro t listed a w hk ht hf hs hl h
    refine ⟨fun hr => ?_, fun i hi => ?_⟩
    · rcases Nat.lt_or_ge t ops.size with hlt | hge
      · exfalso
        obtain ⟨o, ho⟩ : ∃ o, ops[t]? = some o := ⟨_, Array.getElem?_eq_getElem hlt⟩
        have hm : t ∈ Region.ready md ops listed := mem_ready.2 ⟨by
          have hs' : t < listed.size := by rw [hs]; exact hlt
          have h2 : ¬ listed.getD t false = true := fun e => by have := (hl t).1 e; omega
          simp [hs'] at h2 ⊢; exact h2, o, ho, fun e he _ => by
          have := (regionB_spec hB ho).1 e he
          exact (hl e.on).2 this⟩
        rw [hr] at hm; cases hm
      · rw [List.drop_of_length_le (by simp; omega)] at h
        exact h
    · obtain ⟨hun, o, ho, haf⟩ := mem_ready.1 hi
      have hlt : i < ops.size := (Array.getElem?_eq_some_iff.1 ho).1
      have hs' : i < listed.size := by rw [hs]; exact hlt
      have hfalse : listed.getD i false = false := by simp [hs'] at hun ⊢; exact hun
      have hti : t ≤ i := by
        rcases Nat.lt_or_ge i t with h1 | h1
        · have := (hl i).2 h1; rw [hfalse] at this; cases this
        · exact h1
      have hall := tail_all hT (listed := listed) (fun j oj hj hlj e he hb => (hl e.on).2 (by have h1 := (hl j).1 hlj; have := (regionB_spec hB hj).1 e he; omega)) ho (by omega) haf
      obtain rfl : i = t := by
        rcases Nat.lt_or_ge t i with h1 | h1
        · have := (hl t).1 (hall t h1); omega
        · omega
      rw [List.drop_eq_getElem_cons (by simpa using hlt)] at h
      have hoe : ops.toList[i]'(by simpa using hlt) = o := by
        have := Array.getElem?_eq_getElem hlt
        rw [ho] at this
        rw [Array.getElem_toList]; exact (Option.some.inj this).symm
      rw [hoe] at h
      have next : ∀ a' w', wpList P ops Qx (ops.toList.drop (i + 1)) a' w' → wpAny P md ops Qx fuel (listed.setIfInBounds i true) a' w' := fun a' w' h' =>
        ih (i + 1) _ a' w' (by omega) (by omega) (by omega) (by simpa using hs) (fun j => by
          by_cases hij : i = j
          · subst hij; simp [hs']
          · rw [getD_set_ne false hij, hl j]; omega) h'
      unfold wpOp
      simp only [ho]
      unfold wpList at h
      split at h
      · rename_i hw
        rw [if_pos hw]
        rcases h with h | h
        · exact .inl (Oper.wp_mono (fun a' w' h' => next a' w' h') h)
        · exact .inr h
      · rename_i hw
        rw [if_neg hw]
        exact next _ _ h
theorem region_anyT {k : Nat} (hk : k ≤ ops.size) {F : Nat → Value → World → Prop} {w0 : World} {a0 : Act} (hB : regionB ops a0.tmps.size = true) (hT : tailB md ops k = true) (hF : ∀ i v w w', F i v w → Below w.heap.size w w' → F i v w')
    (hs : StepsOkG P md ops F w0 a0 (ops.toList.take k) 0)
    (hend : ∀ listed a w, RInvG md ops F w0 a0 listed a w → (∀ j, listed.getD j false = true ↔ j < k) → wpList P ops Qx (ops.toList.drop k) a w) :
    ∀ (fuel : Nat) (listed : Array Bool) (a : Act) (w : World), RInvG md ops F w0 a0 listed a w → (∀ j, j < ops.size → listed.getD j false = true → j < k) → ((List.range ops.size).filter fun i => !listed.getD i false).length ≤ fuel → wpAny P md ops Qx fuel listed a w := by
  intro fuel
  induction fuel with
  | zero =>
    intro listed a w inv hlow hc
    have hall : ∀ i, i < ops.size → listed.getD i false = true := fun i hi => by
      have h0 := List.eq_nil_of_length_eq_zero (Nat.le_zero.1 hc)
      have h1 := List.filter_eq_nil_iff.1 h0 i (List.mem_range.2 hi)
      cases h : listed.getD i false
      · rw [h] at h1; simp at h1
      · rfl
    have hkk : k = ops.size := by
      rcases Nat.lt_or_ge k ops.size with h | h
      · have := hlow k h (hall k h); omega
      · omega
    refine any_tail hT hB 0 k listed a w (Nat.le_refl _) hk (by omega) inv.lsize (fun j => ⟨fun h => ?_, fun h => hall j (by omega)⟩) (hend listed a w inv (fun j => ⟨fun h => ?_, fun h => hall j (by omega)⟩))
    all_goals
      rcases Nat.lt_or_ge j ops.size with h1 | h1
      · exact hlow j h1 h
      · have hs' : ¬ j < listed.size := by rw [inv.lsize]; omega
        simp [hs'] at h
  | succ fuel ih =>
    intro listed a w inv hlow hc
    by_cases hdone : ∀ j, j < k → listed.getD j false = true
    · have hl : ∀ j, listed.getD j false = true ↔ j < k := fun j => ⟨fun h => by
        rcases Nat.lt_or_ge j ops.size with h1 | h1
        · exact hlow j h1 h
        · have hs' : ¬ j < listed.size := by rw [inv.lsize]; omega
          simp [hs'] at h, hdone j⟩
      have hcount : ops.size - k ≤ fuel + 1 := by
        refine Nat.le_trans ?_ hc
        have : ((List.range ops.size).filter fun i => !listed.getD i false).length = ops.size - k := by
          have e : ((List.range ops.size).filter fun i => !listed.getD i false) = (List.range' k (ops.size - k)) := by
            rw [List.range_eq_range', show ops.size = k + (ops.size - k) by omega, ← List.range'_append_1, List.filter_append, Nat.zero_add, Nat.add_sub_cancel_left]
            rw [List.filter_eq_nil_iff.2, List.nil_append, List.filter_eq_self.2]
            · intro x hx
              have := List.mem_range'_1.1 hx
              cases h : listed.getD x false
              · rfl
              · have := (hl x).1 h; omega
            · intro x hx
              have := List.mem_range'_1.1 hx
              rw [(hl x).2 (by omega)]; simp
          rw [e, List.length_range']
        omega
      exact any_tail hT hB (fuel + 1) k listed a w (Nat.le_refl _) hk (by omega) inv.lsize hl (hend listed a w inv hl)
    · refine ⟨fun hr => absurd (fun j hj => inv.all hB hr j (by omega)) hdone, fun i hi => ?_⟩
      obtain ⟨hun, o, ho, haf⟩ := mem_ready.1 hi
      have hlt : i < ops.size := (Array.getElem?_eq_some_iff.1 ho).1
      have hls : i < listed.size := by rw [inv.lsize]; exact hlt
      have hfalse : listed.getD i false = false := by simp [hls] at hun ⊢; exact hun
      have hik : i < k := by
        rcases Nat.lt_or_ge i k with h | h
        · exact h
        · exact absurd (fun j hj => tail_all hT inv.closed ho h haf j (by omega)) hdone
      obtain ⟨hb1, hb2, hb3⟩ := regionB_spec hB ho
      have hst := StepsOkG.at_ hs (i := i) (o := o) (by rw [List.getElem?_take, if_pos hik, Array.getElem?_toList]; exact ho)
      rw [Nat.zero_add] at hst
      have hcnt : ((List.range ops.size).filter fun j => !(listed.setIfInBounds i true).getD j false).length ≤ fuel := by
        have : ((List.range ops.size).filter fun j => !(listed.setIfInBounds i true).getD j false).length < ((List.range ops.size).filter fun j => !listed.getD j false).length := by
          refine filter_lt (i := i) (by rw [hfalse]; rfl) (by simp [hls]) (fun j _ hj => ?_) (List.mem_range.2 hlt)
          by_cases hij : i = j
          · subst hij; rw [hfalse]; rfl
          · rwa [getD_set_ne false hij] at hj
        omega
      have next : ∀ v w', Below w.heap.size w w' → F i v w' → wpAny P md ops Qx fuel (listed.setIfInBounds i true) (a.put o.dst v) w' := fun v w' hq hf => by
        refine ih _ _ _ ⟨inv.q.trans (hq.mono inv.q.size), by simpa using inv.lsize, ?_, ?_, fun d hd => ?_, fun j oj hj hl e he hb => ?_, fun j oj d hj hjd hl => ?_⟩ (fun j hj hl => by
          by_cases hij : i = j
          · omega
          · rw [getD_set_ne false hij] at hl; exact hlow j hj hl) hcnt
        · cases hd : o.dst <;> simp [Act.put, hd, inv.size]
        · cases hd : o.dst <;> simp [Act.put, hd, inv.defers]
        · rw [← inv.frame d fun j oj hj hjd => by
            have h1 := hd j oj hj hjd
            by_cases hij : i = j
            · subst hij; simp [hls] at h1
            · rwa [getD_set_ne false hij] at h1]
          cases hod : o.dst with
          | none => rfl
          | some d' =>
            have hne : d' ≠ d := fun h => by
              have h1 := hd i o ho (h ▸ hod)
              simp [hls] at h1
            simp only [Act.put, Array.getD_eq_getD_getElem?]
            rw [Array.getElem?_setIfInBounds_ne hne]
        · have hdep : listed.getD e.on false = true := by
            by_cases hij : i = j
            · subst hij
              have : oj = o := Option.some.inj (hj.symm.trans ho)
              subst this
              exact haf e he hb
            · rw [getD_set_ne false hij] at hl
              exact inv.closed j oj hj hl e he hb
          have hne : i ≠ e.on := fun h => by rw [← h, hfalse] at hdep; cases hdep
          rw [getD_set_ne false hne]; exact hdep
        · by_cases hij : i = j
          · subst hij
            have : oj = o := Option.some.inj (hj.symm.trans ho)
            subst this
            have hdn := hb2 d hjd
            rw [← inv.size] at hdn
            rw [hjd]
            simp only [Act.put, Array.getD_eq_getD_getElem?]
            rw [Array.getElem?_setIfInBounds_self_of_lt hdn]
            exact hf
          · rw [getD_set_ne false hij] at hl
            have h1 := hF j _ w w' (inv.fact j oj d hj hjd hl) hq
            have e : (a.put o.dst v).tmps.getD d undef = a.tmps.getD d undef := by
              cases hod : o.dst with
              | none => rfl
              | some d' =>
                have hne : d' ≠ d := fun h => hij (hb3 j oj d hj hjd (h ▸ hod))
                simp only [Act.put, Array.getD_eq_getD_getElem?]
                rw [Array.getElem?_setIfInBounds_ne hne]
            rw [e]; exact h1
      have hfa := hst a w inv.q (fun d hd => inv.frame d fun j oj hj hjd => by
        cases hl : listed.getD j false with
        | false => rfl
        | true =>
          exfalso
          obtain ⟨e, he, hb, hon⟩ := waitsB_spec hd hj hjd
          have := inv.closed j oj hj hl e he hb
          rw [hon, hfalse] at this; cases this) (fun j hj oj d hoj hod => by
        obtain ⟨k, hk, hk2⟩ := Array.any_eq_true'.1 hj
        simp only [Bool.and_eq_true, beq_iff_eq] at hk2
        refine inv.fact j oj d hoj hod ?_
        rw [← hk2.2]
        exact haf k hk hk2.1)
      unfold wpOp
      simp only [ho]
      rcases hfa with ⟨hw, hdo⟩ | ⟨hw, hf⟩
      · rw [if_pos hw]
        exact .inl (hdo _ _ fun v w' h => next v w' h.1 h.2)
      · rw [if_neg (by rw [hw]; exact Bool.false_ne_true)]
        exact next undef w (Below.refl _ _) hf
end
theorem wp_region_factsT {P : Program} {id : Nat} {ops : Array Oper} {Q : Exit → Act → World → Prop} {a0 : Act} {w : World} (k : Nat) (hk : k ≤ ops.size) (hm : P.follows .mixedOrders = true) (hB : regionB ops a0.tmps.size = true) (hT : tailB .any ops k = true)
    (F : Nat → Value → World → Prop) (hF : ∀ i v w w', F i v w → Below w.heap.size w w' → F i v w')
    (hs : StepsOkG P .any ops F w a0 (ops.toList.take k) 0)
    (hend : ∀ (us : Nat → Value) w', Below w.heap.size w w' → (∀ (i : Nat) o d, i < k → ops[i]? = some o → o.dst = some d → F i (us d) w') → wpList P ops Q (ops.toList.drop k) { tmps := fillSlots us (ops.toList.take k) a0.tmps, defers := a0.defers } w') : (Code.region id ops true).wp P Q a0 w := by
  refine wp_region_any hm (region_anyT hk hB hT hF hs (fun listed a w' inv hl => ?_) ops.size _ a0 _ ⟨(Below.refl _ _).drew, by simp, rfl, rfl, fun _ _ => rfl, fun j o hj hl => ?_, fun i o d hi _ hl => ?_⟩ (fun j hj hl => ?_) ?_)
  · have h := hend (fun d => a.tmps.getD d undef) w' inv.q (fun i o d hik hi hd => inv.fact i o d hi hd ((hl i).2 hik))
    have e : a = { tmps := fillSlots (fun d => a.tmps.getD d undef) (ops.toList.take k) a0.tmps, defers := a0.defers } := by
      obtain ⟨tm, df⟩ := a
      have hdf : df = a0.defers := inv.defers
      have hsz : tm.size = a0.tmps.size := inv.size
      subst hdf
      congr 1
      refine Array.ext_getElem? fun d => ?_
      by_cases hlt : d < a0.tmps.size
      · by_cases hw : ∃ o ∈ ops.toList.take k, o.dst = some d
        · rw [fillSlots_yes _ d _ _ hw hlt]
          have hd : d < tm.size := by omega
          simp [hd]
        · rw [fillSlots_no _ d _ _ (fun o ho he => hw ⟨o, ho, he⟩)]
          have h1 := inv.frame d (fun i o hi hd => by
            cases hli : listed.getD i false with
            | false => rfl
            | true =>
              exfalso
              have hik := (hl i).1 hli
              refine hw ⟨o, List.mem_of_getElem? (i := i) ?_, hd⟩
              rw [List.getElem?_take, if_pos hik, Array.getElem?_toList]; exact hi)
          have hd : d < tm.size := by omega
          simp only [Array.getD_eq_getD_getElem?] at h1
          rw [Array.getElem?_eq_getElem hd, Array.getElem?_eq_getElem hlt] at h1 ⊢
          exact congrArg some h1
      · rw [Array.getElem?_eq_none (by omega), Array.getElem?_eq_none (by rw [fillSlots_size]; omega)]
    rw [e]
    exact h
  · have hlt : j < ops.size := (Array.getElem?_eq_some_iff.1 hj).1
    simp [hlt] at hl
  · have hlt : i < ops.size := (Array.getElem?_eq_some_iff.1 hi).1
    simp [hlt] at hl
  · simp [hj] at hl
  · refine Nat.le_trans (List.length_filter_le _ _) ?_
    simp
end
end Go.Proofs.Ytffenfhbiapefaa
