/- A region that draws its order, walked by facts: each operation once, whatever came ahead of it. What an operation yields is a fact that stays as memory grows. -/
import Derived.Test.YtffenfhbiapefaaOwn
import Derived.Orders
namespace Go.Proofs.Ytffenfhbiapefaa
set_option linter.unusedVariables false
set_option linter.unusedSimpArgs false
open Go.RowKit

section
variable {P : Program} {ops : Array Oper} {Qx : Exit → Act → World → Prop} {md : Region.Mode}
/-- The operation yields a value of which Post holds. -/
def OpDoes (P : Program) (o : Oper) (a : Act) (w : World) (Post : Value → World → Prop) : Prop :=
  ∀ (K : Act → World → Prop) (Q : Exit → Act → World → Prop), (∀ v w', Post v w' → K (a.put o.dst v) w') → o.wp P a w K Q
theorem OpDoes.run {o : Oper} {a : Act} {w w' : World} {v : Value} {Post : Value → World → Prop} (hr : (execOp a.eval o).run P w = .ok (.value v) w') (h : Post v w') : OpDoes P o a w Post := fun K Q hK => by
  unfold Oper.wp; rw [hr]; exact hK v w' h
theorem OpDoes.call {o : Oper} {a : Act} {w w' : World} {f : FuncId} {args : Array Value} {Post : Value → World → Prop} (hr : (execOp a.eval o).run P w = .ok (.enter f args) w') (h : Calls P f args w' fun e w'' => ∃ v, e = .returned v ∧ Post v w'') : OpDoes P o a w Post := fun K Q hK => by
  unfold Oper.wp; rw [hr]
  refine Calls.mono h ?_
  rintro e w'' ⟨v, rfl, h⟩
  exact hK v w'' h

theorem filter_lt {p q : Nat → Bool} {i : Nat} (hp : p i = true) (hq : q i = false) : ∀ {l : List Nat}, (∀ j ∈ l, q j = true → p j = true) → i ∈ l → (l.filter q).length < (l.filter p).length
  | [], _, hi => by cases hi
  | x :: l, h, hi => by
    have hle : ∀ {l : List Nat}, (∀ j ∈ l, q j = true → p j = true) → (l.filter q).length ≤ (l.filter p).length := fun {l} h => by
      induction l with
      | nil => simp
      | cons y l ih =>
        have h1 := h y (by simp)
        have h2 := ih fun j hj => h j (by simp [hj])
        rw [List.filter_cons, List.filter_cons]
        cases hy : q y
        · cases p y <;> simp <;> omega
        · rw [h1 hy]; simp; omega
    have ht := fun j (hj : j ∈ l) => h j (List.mem_cons_of_mem _ hj)
    rcases List.mem_cons.1 hi with rfl | hi
    · rw [List.filter_cons, List.filter_cons, hp, hq]
      have := hle ht
      simp; omega
    · have h2 := filter_lt hp hq ht hi
      have h1 := h x (by simp)
      rw [List.filter_cons, List.filter_cons]
      cases hx : q x
      · cases p x <;> simp <;> omega
      · rw [h1 hx]; simp; omega

/-- What stands while the region is under way. -/
structure RInv (ops : Array Oper) (F : Nat → Value → World → Prop) (w0 : World) (a0 : Act) (listed : Array Bool) (a : Act) (w : World) : Prop where
  q : Below w0.heap.size w0 w
  lsize : listed.size = ops.size
  size : a.tmps.size = a0.tmps.size
  defers : a.defers = a0.defers
  frame : ∀ d, (∀ (i : Nat) o, ops[i]? = some o → o.dst ≠ some d) → a.tmps.getD d undef = a0.tmps.getD d undef
  fact : ∀ (i : Nat) o d, ops[i]? = some o → o.dst = some d → listed.getD i false = true → F i (a.tmps.getD d undef) w
/-- What one operation must do. -/
def StepOk (P : Program) (md : Region.Mode) (ops : Array Oper) (F : Nat → Value → World → Prop) (w0 : World) (a0 : Act) (i : Nat) (o : Oper) : Prop :=
  ∀ a w, Below w0.heap.size w0 w → (∀ d, (∀ (i : Nat) o, ops[i]? = some o → o.dst ≠ some d) → a.tmps.getD d undef = a0.tmps.getD d undef) →
    (∀ j, (o.after.any fun e => Region.binds md e && e.on == j) = true → ∀ oj d, ops[j]? = some oj → oj.dst = some d → F j (a.tmps.getD d undef) w) →
    (Region.wanted o (yielded ops a.tmps) = true ∧ OpDoes P o a w fun v w' => Below w.heap.size w w' ∧ F i v w') ∨ (Region.wanted o (yielded ops a.tmps) = false ∧ F i undef w)
def StepsOk (P : Program) (md : Region.Mode) (ops : Array Oper) (F : Nat → Value → World → Prop) (w0 : World) (a0 : Act) : List Oper → Nat → Prop
  | [], _ => True
  | o :: l, i => StepOk P md ops F w0 a0 i o ∧ StepsOk P md ops F w0 a0 l (i + 1)
theorem StepsOk.at_ {F : Nat → Value → World → Prop} {w0 : World} {a0 : Act} : ∀ {l : List Oper} {k : Nat}, StepsOk P md ops F w0 a0 l k → ∀ {i : Nat} {o : Oper}, l[i]? = some o → StepOk P md ops F w0 a0 (k + i) o
  | [], _, _, i, o, h => by cases i <;> cases h
  | x :: l, k, h, 0, o, hi => by simp at hi; subst hi; exact h.1
  | x :: l, k, h, i + 1, o, hi => by
    have := StepsOk.at_ h.2 (i := i) (o := o) (by simpa using hi)
    rwa [show k + 1 + i = k + (i + 1) by omega] at this

/-- No slot is written twice; each operation waits for earlier ones alone; each slot lies in the frame. -/
def regionB (ops : Array Oper) (n : Nat) : Bool :=
  (List.range ops.size).all fun i =>
    match ops[i]? with
    | none => true
    | some o => (o.after.all fun e => decide (e.on < i)) && (match o.dst with | none => true | some d => decide (d < n)) &&
      (List.range ops.size).all fun j =>
        match ops[j]? with
        | none => true
        | some oj => i == j || oj.dst.isNone || !(o.dst == oj.dst)
theorem regionB_spec {n : Nat} (h : regionB ops n = true) {i : Nat} {o : Oper} (hi : ops[i]? = some o) :
    (∀ e ∈ o.after, e.on < i) ∧ (∀ d, o.dst = some d → d < n) ∧ ∀ (j : Nat) oj d, ops[j]? = some oj → oj.dst = some d → o.dst = some d → i = j := by
  have hlt : i < ops.size := (Array.getElem?_eq_some_iff.1 hi).1
  have h1 := List.all_eq_true.1 h i (List.mem_range.2 hlt)
  simp only [hi, Bool.and_eq_true] at h1
  obtain ⟨⟨h2, h3⟩, h4⟩ := h1
  refine ⟨fun e he => ?_, fun d hd => ?_, fun j oj d hj hjd hd => ?_⟩
  · have := Array.all_eq_true_iff_forall_mem.1 h2 e he
    exact of_decide_eq_true this
  · rw [hd] at h3; exact of_decide_eq_true h3
  · have hjlt : j < ops.size := (Array.getElem?_eq_some_iff.1 hj).1
    have h5 := List.all_eq_true.1 h4 j (List.mem_range.2 hjlt)
    simp only [hj, Bool.or_eq_true, beq_iff_eq] at h5
    rcases h5 with (h5 | h5) | h5
    · exact h5
    · rw [hjd] at h5; cases h5
    · rw [hd, hjd] at h5; simp at h5

theorem RInv.all {F : Nat → Value → World → Prop} {w0 : World} {a0 : Act} (hB : regionB ops a0.tmps.size = true) {listed : Array Bool} {a : Act} {w : World} (inv : RInv ops F w0 a0 listed a w) (hr : Region.ready md ops listed = []) : ∀ i, i < ops.size → listed.getD i false = true := by
  intro i
  induction i using Nat.strongRecOn with
  | _ i ih =>
    intro hi
    cases hl : listed.getD i false with
    | true => rfl
    | false =>
      exfalso
      obtain ⟨o, ho⟩ : ∃ o, ops[i]? = some o := ⟨_, Array.getElem?_eq_getElem hi⟩
      have hm : i ∈ Region.ready md ops listed := mem_ready.2 ⟨by
        have hs : i < listed.size := by rw [inv.lsize]; exact hi
        simp [hs] at hl ⊢; exact hl, o, ho, fun e he _ => by
        have := (regionB_spec hB ho).1 e he
        exact ih e.on this (by omega)⟩
      rw [hr] at hm
      cases hm
theorem region_any {F : Nat → Value → World → Prop} {w0 : World} {a0 : Act} (hB : regionB ops a0.tmps.size = true) (hF : ∀ i v w w', F i v w → Below w.heap.size w w' → F i v w')
    (hs : StepsOk P md ops F w0 a0 ops.toList 0)
    (hend : ∀ a w, RInv ops F w0 a0 (Array.replicate ops.size true) a w → Qx .normal a w) :
    ∀ (fuel : Nat) (listed : Array Bool) (a : Act) (w : World), RInv ops F w0 a0 listed a w → ((List.range ops.size).filter fun i => !listed.getD i false).length ≤ fuel → wpAny P md ops Qx fuel listed a w := by
  have done : ∀ (listed : Array Bool) (a : Act) (w : World), RInv ops F w0 a0 listed a w → (∀ i, i < ops.size → listed.getD i false = true) → Qx .normal a w := fun listed a w inv h =>
    hend a w ⟨inv.q, by simp, inv.size, inv.defers, inv.frame, fun i o d hi hd _ => inv.fact i o d hi hd (h i (Array.getElem?_eq_some_iff.1 hi).1)⟩
  intro fuel
  induction fuel with
  | zero =>
    intro listed a w inv hc
    have hall : ∀ i, i < ops.size → listed.getD i false = true := fun i hi => by
      have h0 := List.eq_nil_of_length_eq_zero (Nat.le_zero.1 hc)
      have h1 := List.filter_eq_nil_iff.1 h0 i (List.mem_range.2 hi)
      cases h : listed.getD i false
      · rw [h] at h1; simp at h1
      · rfl
    refine ⟨?_, done listed a w inv hall⟩
    refine List.eq_nil_iff_forall_not_mem.2 fun i hi => ?_
    obtain ⟨h1, o, ho, _⟩ := mem_ready.1 hi
    have h2 := hall i (Array.getElem?_eq_some_iff.1 ho).1
    have hs : i < listed.size := by rw [inv.lsize]; exact (Array.getElem?_eq_some_iff.1 ho).1
    simp [hs] at h1 h2
    rw [h1] at h2; cases h2
  | succ fuel ih =>
    intro listed a w inv hc
    refine ⟨fun hr => done listed a w inv (inv.all hB hr), fun i hi => ?_⟩
    obtain ⟨hun, o, ho, haf⟩ := mem_ready.1 hi
    have hlt : i < ops.size := (Array.getElem?_eq_some_iff.1 ho).1
    have hls : i < listed.size := by rw [inv.lsize]; exact hlt
    have hfalse : listed.getD i false = false := by simp [hls] at hun ⊢; exact hun
    obtain ⟨hb1, hb2, hb3⟩ := regionB_spec hB ho
    have hst := StepsOk.at_ hs (i := i) (o := o) (by rw [Array.getElem?_toList]; exact ho)
    rw [Nat.zero_add] at hst
    have hcnt : ((List.range ops.size).filter fun j => !(listed.setIfInBounds i true).getD j false).length ≤ fuel := by
      have : ((List.range ops.size).filter fun j => !(listed.setIfInBounds i true).getD j false).length < ((List.range ops.size).filter fun j => !listed.getD j false).length := by
        refine filter_lt (i := i) (by rw [hfalse]; rfl) (by simp [hls]) (fun j _ hj => ?_) (List.mem_range.2 hlt)
        by_cases hij : i = j
        · subst hij; rw [hfalse]; rfl
        · rwa [getD_set_ne false hij] at hj
      omega
    have next : ∀ v w', Below w.heap.size w w' → F i v w' → wpAny P md ops Qx fuel (listed.setIfInBounds i true) (a.put o.dst v) w' := fun v w' hq hf => by
      refine ih _ _ _ ⟨inv.q.trans (hq.mono inv.q.size), by simpa using inv.lsize, ?_, ?_, fun d hd => ?_, fun j oj d hj hjd hl => ?_⟩ hcnt
      · cases hd : o.dst <;> simp [Act.put, hd, inv.size]
      · cases hd : o.dst <;> simp [Act.put, hd, inv.defers]
      · rw [← inv.frame d hd]
        cases hod : o.dst with
        | none => rfl
        | some d' =>
          have hne : d' ≠ d := fun h => hd i o ho (h ▸ hod)
          simp only [Act.put, Array.getD_eq_getD_getElem?]
          rw [Array.getElem?_setIfInBounds_ne hne]
      · by_cases hij : i = j
        · subst hij
          have : oj = o := Option.some.inj (hj.symm.trans ho)
          subst this
          have hdn := hb2 d hjd
          rw [← inv.size] at hdn
          rw [hjd]
          simp only [Act.put, Array.getD_eq_getD_getElem?]
          rw [Array.getElem?_setIfInBounds_self_of_lt hdn]
          exact hf
        · rw [getD_set_ne false hij] at hl
          have h1 := hF j _ w w' (inv.fact j oj d hj hjd hl) hq
          have e : (a.put o.dst v).tmps.getD d undef = a.tmps.getD d undef := by
            cases hod : o.dst with
            | none => rfl
            | some d' =>
              have hne : d' ≠ d := fun h => hij (hb3 j oj d hj hjd (h ▸ hod))
              simp only [Act.put, Array.getD_eq_getD_getElem?]
              rw [Array.getElem?_setIfInBounds_ne hne]
          rw [e]; exact h1
    have hfa := hst a w inv.q inv.frame (fun j hj oj d hoj hod => by
      obtain ⟨k, hk, hk2⟩ := Array.any_eq_true'.1 hj
      simp only [Bool.and_eq_true, beq_iff_eq] at hk2
      refine inv.fact j oj d hoj hod ?_
      rw [← hk2.2]
      exact haf k hk hk2.1)
    unfold wpOp
    simp only [ho]
    rcases hfa with ⟨hw, hdo⟩ | ⟨hw, hf⟩
    · rw [if_pos hw]
      exact .inl (hdo _ _ fun v w' h => next v w' h.1 h.2)
    · rw [if_neg (by rw [hw]; exact Bool.false_ne_true)]
      exact next undef w (Below.refl _ _) hf
end
theorem wp_region_facts {P : Program} {id : Nat} {ops : Array Oper} {Q : Exit → Act → World → Prop} {a0 : Act} {w : World} (hm : P.follows .mixedOrders = true) (hB : regionB ops a0.tmps.size = true)
    (F : Nat → Value → World → Prop) (hF : ∀ i v w w', F i v w → Below w.heap.size w w' → F i v w')
    (hs : StepsOk P .any ops F w a0 ops.toList 0)
    (hend : ∀ a w', RInv ops F w a0 (Array.replicate ops.size true) a w' → Q .normal a w') : (Code.region id ops true).wp P Q a0 w := by
  refine wp_region_any hm (region_any hB hF hs hend ops.size _ a0 _ ⟨(Below.refl _ _).drew, by simp, rfl, rfl, fun _ _ => rfl, fun i o d hi _ hl => ?_⟩ ?_)
  · have hlt : i < ops.size := (Array.getElem?_eq_some_iff.1 hi).1
    simp [hlt] at hl
  · refine Nat.le_trans (List.length_filter_le _ _) ?_
    simp
/-- A fact of what a slot holds. -/
inductive Fct where
  | any
  | is (v : Value)
  | row (R : List Value)
  | own (base : Nat) (e : TypeId) (R : List Value)
  | that (p : Value → World → Prop) (hp : ∀ v w w', p v w → Below w.heap.size w w' → p v w')
def Fct.holds : Fct → Value → World → Prop
  | .any, _, _ => True
  | .is v, u, _ => u = v
  | .row R, u, w => ∃ g, u = .slice (some ⟨g, 0, none⟩) R.length R.length ∧ SeesP w (· < w.heap.size) (some ⟨g, 0, none⟩) R
  | .own base e R, u, w => base ≤ w.heap.size ∧ w.ownsRow base e 1 u R.length R
  | .that p _, u, w => p u w
theorem Fct.stays : ∀ (f : Fct) (v : Value) (w w' : World), f.holds v w → Below w.heap.size w w' → f.holds v w'
  | .any, _, _, _, _, _ => trivial
  | .is _, _, _, _, h, _ => h
  | .row R, v, w, w', ⟨g, h1, h2⟩, hq => ⟨g, h1, (h2.belowP (fun _ h => h) hq).more fun _ hb => Nat.lt_of_lt_of_le hb hq.size⟩
  | .own base e R, v, w, w', ⟨hb, h⟩, hq => ⟨Nat.le_trans hb hq.size, own_below h hq⟩
  | .that _ hp, v, w, w', h, hq => hp v w w' h hq
def factsOf (fs : List Fct) (i : Nat) : Value → World → Prop := (fs.getD i .any).holds
theorem factsOf_stays (fs : List Fct) (i : Nat) (v : Value) (w w' : World) (h : factsOf fs i v w) (hq : Below w.heap.size w w') : factsOf fs i v w' := Fct.stays _ v w w' h hq
/-- No operation writes slot d. -/
def noDst (ops : Array Oper) (d : Nat) : Bool := ops.all fun o => !(o.dst == some d)
theorem noDst_spec {ops : Array Oper} {d : Nat} (h : noDst ops d = true) (i : Nat) (o : Oper) (hi : ops[i]? = some o) : o.dst ≠ some d := by
  have h1 := Array.all_eq_true_iff_forall_mem.1 h o (Array.mem_of_getElem? hi)
  intro e
  rw [e] at h1
  simp at h1
theorem getD_form (xs : Array Value) (d : Nat) : xs.getD d undef = xs[d]?.getD undef := Array.getD_eq_getD_getElem?
theorem wanted_free {o : Oper} {y : Nat → Option Bool} (h : o.guard = none) : Region.wanted o y = true := by unfold Region.wanted; rw [h]
theorem wanted_on {o : Oper} {ops : Array Oper} {a : Act} {g d : Nat} {og : Oper} {b : Bool} (h : o.guard = some (g, b)) (hg : ops[g]? = some og) (hd : og.dst = some d) (hv : a.tmps.getD d undef = .bool b) : Region.wanted o (yielded ops a.tmps) = true := by
  have h2 : a.tmps[d]? = some (.bool b) := by
    rw [Array.getD_eq_getD_getElem?] at hv
    rcases ht : a.tmps[d]? with _ | u
    · rw [ht] at hv; cases hv
    · rw [ht] at hv; exact congrArg some hv
  unfold Region.wanted
  rw [h]
  simp [yielded, hg, hd, h2]
end Go.Proofs.Ytffenfhbiapefaa
