/- A region that draws its order, walked by facts (as in Regf), where an operation may read a slot that a later one writes: 'x = x || f(y)'. -/
import Derived.Test.YtffenfhbiapefaaRegf
namespace Go.Proofs.Ytffenfhbiapefaa
set_option linter.unusedVariables false
set_option linter.unusedSimpArgs false
open Go.RowKit

section
variable {P : Program} {ops : Array Oper} {Qx : Exit → Act → World → Prop} {md : Region.Mode}
/-- What stands while the region is under way. -/
structure RInvG (md : Region.Mode) (ops : Array Oper) (F : Nat → Value → World → Prop) (w0 : World) (a0 : Act) (listed : Array Bool) (a : Act) (w : World) : Prop where
  q : Below w0.heap.size w0 w
  lsize : listed.size = ops.size
  size : a.tmps.size = a0.tmps.size
  defers : a.defers = a0.defers
  frame : ∀ d, (∀ (i : Nat) o, ops[i]? = some o → o.dst = some d → listed.getD i false = false) → a.tmps.getD d undef = a0.tmps.getD d undef
  closed : ∀ (j : Nat) o, ops[j]? = some o → listed.getD j false = true → ∀ e ∈ o.after, Region.binds md e = true → listed.getD e.on false = true
  fact : ∀ (i : Nat) o d, ops[i]? = some o → o.dst = some d → listed.getD i false = true → F i (a.tmps.getD d undef) w
/-- Each operation that writes slot d waits for operation i. -/
def waitsB (md : Region.Mode) (ops : Array Oper) (i d : Nat) : Bool :=
  (List.range ops.size).all fun j =>
    match ops[j]? with
    | none => true
    | some o => !(o.dst == some d) || o.after.any fun e => Region.binds md e && e.on == i
theorem waitsB_spec {i d : Nat} (h : waitsB md ops i d = true) {j : Nat} {o : Oper} (hj : ops[j]? = some o) (hd : o.dst = some d) : ∃ e ∈ o.after, Region.binds md e = true ∧ e.on = i := by
  have hlt : j < ops.size := (Array.getElem?_eq_some_iff.1 hj).1
  have h1 := List.all_eq_true.1 h j (List.mem_range.2 hlt)
  simp only [hj, hd, beq_self_eq_true, Bool.not_true, Bool.false_or] at h1
  obtain ⟨k, hk, hk2⟩ := Array.any_eq_true'.1 h1
  simp only [Bool.and_eq_true, beq_iff_eq] at hk2
  exact ⟨k, hk, hk2.1, hk2.2⟩
def StepOkG (P : Program) (md : Region.Mode) (ops : Array Oper) (F : Nat → Value → World → Prop) (w0 : World) (a0 : Act) (i : Nat) (o : Oper) : Prop :=
  ∀ a w, Below w0.heap.size w0 w → (∀ d, waitsB md ops i d = true → a.tmps.getD d undef = a0.tmps.getD d undef) →
    (∀ j, (o.after.any fun e => Region.binds md e && e.on == j) = true → ∀ oj d, ops[j]? = some oj → oj.dst = some d → F j (a.tmps.getD d undef) w) →
    (Region.wanted o (yielded ops a.tmps) = true ∧ OpDoes P o a w fun v w' => Below w.heap.size w w' ∧ F i v w') ∨ (Region.wanted o (yielded ops a.tmps) = false ∧ F i undef w)
def StepsOkG (P : Program) (md : Region.Mode) (ops : Array Oper) (F : Nat → Value → World → Prop) (w0 : World) (a0 : Act) : List Oper → Nat → Prop
  | [], _ => True
  | o :: l, i => StepOkG P md ops F w0 a0 i o ∧ StepsOkG P md ops F w0 a0 l (i + 1)
theorem StepsOkG.at_ {F : Nat → Value → World → Prop} {w0 : World} {a0 : Act} : ∀ {l : List Oper} {k : Nat}, StepsOkG P md ops F w0 a0 l k → ∀ {i : Nat} {o : Oper}, l[i]? = some o → StepOkG P md ops F w0 a0 (k + i) o
  | [], _, _, i, o, h => by cases i <;> cases h
  | x :: l, k, h, 0, o, hi => by simp at hi; subst hi; exact h.1
  | x :: l, k, h, i + 1, o, hi => by
    have := StepsOkG.at_ h.2 (i := i) (o := o) (by simpa using hi)
    rwa [show k + 1 + i = k + (i + 1) by omega] at this

theorem RInvG.all {F : Nat → Value → World → Prop} {w0 : World} {a0 : Act} (hB : regionB ops a0.tmps.size = true) {listed : Array Bool} {a : Act} {w : World} (inv : RInvG md ops F w0 a0 listed a w) (hr : Region.ready md ops listed = []) : ∀ i, i < ops.size → listed.getD i false = true := by
  intro i
  induction i using Nat.strongRecOn with
  | _ i ih =>
    intro hi
    cases hl : listed.getD i false with
    | true => rfl
    | false =>
      exfalso
      obtain ⟨o, ho⟩ : ∃ o, ops[i]? = some o := ⟨_, Array.getElem?_eq_getElem hi⟩
      have hm : i ∈ Region.ready md ops listed := mem_ready.2 ⟨by
        have hs : i < listed.size := by rw [inv.lsize]; exact hi
        simp [hs] at hl ⊢; exact hl, o, ho, fun e he _ => by
        have := (regionB_spec hB ho).1 e he
        exact ih e.on this (by omega)⟩
      rw [hr] at hm
      cases hm
theorem region_anyG {F : Nat → Value → World → Prop} {w0 : World} {a0 : Act} (hB : regionB ops a0.tmps.size = true) (hF : ∀ i v w w', F i v w → Below w.heap.size w w' → F i v w')
    (hs : StepsOkG P md ops F w0 a0 ops.toList 0)
    (hend : ∀ a w, RInvG md ops F w0 a0 (Array.replicate ops.size true) a w → Qx .normal a w) :
    ∀ (fuel : Nat) (listed : Array Bool) (a : Act) (w : World), RInvG md ops F w0 a0 listed a w → ((List.range ops.size).filter fun i => !listed.getD i false).length ≤ fuel → wpAny P md ops Qx fuel listed a w := by
  have done : ∀ (listed : Array Bool) (a : Act) (w : World), RInvG md ops F w0 a0 listed a w → (∀ i, i < ops.size → listed.getD i false = true) → Qx .normal a w := fun listed a w inv h =>
    hend a w ⟨inv.q, by simp, inv.size, inv.defers, fun d hd => inv.frame d fun i o hi hid => by
      have h1 := hd i o hi hid
      have hlt := (Array.getElem?_eq_some_iff.1 hi).1
      simp [hlt] at h1, fun j o hj _ e he hb => inv.closed j o hj (h j (Array.getElem?_eq_some_iff.1 hj).1) e he hb |> fun h' => by
      have hlt : e.on < ops.size := by
        have h2 := (regionB_spec hB hj).1 e he
        have h3 := (Array.getElem?_eq_some_iff.1 hj).1
        omega
      simp [hlt], fun i o d hi hd _ => inv.fact i o d hi hd (h i (Array.getElem?_eq_some_iff.1 hi).1)⟩
  intro fuel
  induction fuel with
  | zero =>
    intro listed a w inv hc
    have hall : ∀ i, i < ops.size → listed.getD i false = true := fun i hi => by
      have h0 := List.eq_nil_of_length_eq_zero (Nat.le_zero.1 hc)
      have h1 := List.filter_eq_nil_iff.1 h0 i (List.mem_range.2 hi)
      cases h : listed.getD i false
      · rw [h] at h1; simp at h1
      · rfl
    refine ⟨?_, done listed a w inv hall⟩
    refine List.eq_nil_iff_forall_not_mem.2 fun i hi => ?_
    obtain ⟨h1, o, ho, _⟩ := mem_ready.1 hi
    have h2 := hall i (Array.getElem?_eq_some_iff.1 ho).1
    have hs : i < listed.size := by rw [inv.lsize]; exact (Array.getElem?_eq_some_iff.1 ho).1
    simp [hs] at h1 h2
    rw [h1] at h2; cases h2
  | succ fuel ih =>
    intro listed a w inv hc
    refine ⟨fun hr => done listed a w inv (inv.all hB hr), fun i hi => ?_⟩
    obtain ⟨hun, o, ho, haf⟩ := mem_ready.1 hi
    have hlt : i < ops.size := (Array.getElem?_eq_some_iff.1 ho).1
    have hls : i < listed.size := by rw [inv.lsize]; exact hlt
    have hfalse : listed.getD i false = false := by simp [hls] at hun ⊢; exact hun
    obtain ⟨hb1, hb2, hb3⟩ := regionB_spec hB ho
    have hst := StepsOkG.at_ hs (i := i) (o := o) (by rw [Array.getElem?_toList]; exact ho)
    rw [Nat.zero_add] at hst
    have hcnt : ((List.range ops.size).filter fun j => !(listed.setIfInBounds i true).getD j false).length ≤ fuel := by
      have : ((List.range ops.size).filter fun j => !(listed.setIfInBounds i true).getD j false).length < ((List.range ops.size).filter fun j => !listed.getD j false).length := by
        refine filter_lt (i := i) (by rw [hfalse]; rfl) (by simp [hls]) (fun j _ hj => ?_) (List.mem_range.2 hlt)
        by_cases hij : i = j
        · subst hij; rw [hfalse]; rfl
        · rwa [getD_set_ne false hij] at hj
      omega
    have next : ∀ v w', Below w.heap.size w w' → F i v w' → wpAny P md ops Qx fuel (listed.setIfInBounds i true) (a.put o.dst v) w' := fun v w' hq hf => by
      refine ih _ _ _ ⟨inv.q.trans (hq.mono inv.q.size), by simpa using inv.lsize, ?_, ?_, fun d hd => ?_, fun j oj hj hl e he hb => ?_, fun j oj d hj hjd hl => ?_⟩ hcnt
      · cases hd : o.dst <;> simp [Act.put, hd, inv.size]
      · cases hd : o.dst <;> simp [Act.put, hd, inv.defers]
      · rw [← inv.frame d fun j oj hj hjd => by
          have h1 := hd j oj hj hjd
          by_cases hij : i = j
          · subst hij; simp [hls] at h1
          · rwa [getD_set_ne false hij] at h1]
        cases hod : o.dst with
        | none => rfl
        | some d' =>
          have hne : d' ≠ d := fun h => by
            have h1 := hd i o ho (h ▸ hod)
            simp [hls] at h1
          simp only [Act.put, Array.getD_eq_getD_getElem?]
          rw [Array.getElem?_setIfInBounds_ne hne]
      · have hdep : listed.getD e.on false = true := by
          by_cases hij : i = j
          · subst hij
            have : oj = o := Option.some.inj (hj.symm.trans ho)
            subst this
            exact haf e he hb
          · rw [getD_set_ne false hij] at hl
            exact inv.closed j oj hj hl e he hb
        have hne : i ≠ e.on := fun h => by rw [← h, hfalse] at hdep; cases hdep
        rw [getD_set_ne false hne]; exact hdep
      · by_cases hij : i = j
        · subst hij
          have : oj = o := Option.some.inj (hj.symm.trans ho)
          subst this
          have hdn := hb2 d hjd
          rw [← inv.size] at hdn
          rw [hjd]
          simp only [Act.put, Array.getD_eq_getD_getElem?]
          rw [Array.getElem?_setIfInBounds_self_of_lt hdn]
          exact hf
        · rw [getD_set_ne false hij] at hl
          have h1 := hF j _ w w' (inv.fact j oj d hj hjd hl) hq
          have e : (a.put o.dst v).tmps.getD d undef = a.tmps.getD d undef := by
            cases hod : o.dst with
            | none => rfl
            | some d' =>
              have hne : d' ≠ d := fun h => hij (hb3 j oj d hj hjd (h ▸ hod))
              simp only [Act.put, Array.getD_eq_getD_getElem?]
              rw [Array.getElem?_setIfInBounds_ne hne]
          rw [e]; exact h1
    have hfa := hst a w inv.q (fun d hd => inv.frame d fun j oj hj hjd => by
      cases hl : listed.getD j false with
      | false => rfl
      | true =>
        exfalso
        obtain ⟨e, he, hb, hon⟩ := waitsB_spec hd hj hjd
        have := inv.closed j oj hj hl e he hb
        rw [hon, hfalse] at this; cases this) (fun j hj oj d hoj hod => by
      obtain ⟨k, hk, hk2⟩ := Array.any_eq_true'.1 hj
      simp only [Bool.and_eq_true, beq_iff_eq] at hk2
      refine inv.fact j oj d hoj hod ?_
      rw [← hk2.2]
      exact haf k hk hk2.1)
    unfold wpOp
    simp only [ho]
    rcases hfa with ⟨hw, hdo⟩ | ⟨hw, hf⟩
    · rw [if_pos hw]
      exact .inl (hdo _ _ fun v w' h => next v w' h.1 h.2)
    · rw [if_neg (by rw [hw]; exact Bool.false_ne_true)]
      exact next undef w (Below.refl _ _) hf
end
theorem wp_region_factsG {P : Program} {id : Nat} {ops : Array Oper} {Q : Exit → Act → World → Prop} {a0 : Act} {w : World} (hm : P.follows .mixedOrders = true) (hB : regionB ops a0.tmps.size = true)
    (F : Nat → Value → World → Prop) (hF : ∀ i v w w', F i v w → Below w.heap.size w w' → F i v w')
    (hs : StepsOkG P .any ops F w a0 ops.toList 0)
    (hend : ∀ a w', RInvG .any ops F w a0 (Array.replicate ops.size true) a w' → Q .normal a w') : (Code.region id ops true).wp P Q a0 w := by
  refine wp_region_any hm (region_anyG hB hF hs hend ops.size _ a0 _ ⟨(Below.refl _ _).drew, by simp, rfl, rfl, fun _ _ => rfl, fun j o hj hl => ?_, fun i o d hi _ hl => ?_⟩ ?_)
  · have hlt : j < ops.size := (Array.getElem?_eq_some_iff.1 hj).1
    simp [hlt] at hl
  · have hlt : i < ops.size := (Array.getElem?_eq_some_iff.1 hi).1
    simp [hlt] at hl
  · refine Nat.le_trans (List.length_filter_le _ _) ?_
    simp
/-- The slots that the operations write, filled. -/
def fillSlots (us : Nat → Value) : List Oper → Array Value → Array Value
  | [], base => base
  | o :: l, base => fillSlots us l (match o.dst with | none => base | some d => base.setIfInBounds d (us d))
theorem fillSlots_size (us : Nat → Value) : ∀ (l : List Oper) (base : Array Value), (fillSlots us l base).size = base.size
  | [], _ => rfl
  | o :: l, base => by
    rw [fillSlots, fillSlots_size us l]
    cases o.dst <;> simp
theorem fillSlots_no (us : Nat → Value) (d : Nat) : ∀ (l : List Oper) (base : Array Value), (∀ o ∈ l, o.dst ≠ some d) → (fillSlots us l base)[d]? = base[d]?
  | [], _, _ => rfl
  | o :: l, base, h => by
    rw [fillSlots, fillSlots_no us d l _ (fun o' ho' => h o' (List.mem_cons_of_mem _ ho'))]
    have h1 := h o (by simp)
    cases hd : o.dst with
    | none => rfl
    | some d' => exact Array.getElem?_setIfInBounds_ne (fun e => h1 (by rw [hd, e]))
theorem fillSlots_yes (us : Nat → Value) (d : Nat) : ∀ (l : List Oper) (base : Array Value), (∃ o ∈ l, o.dst = some d) → d < base.size → (fillSlots us l base)[d]? = some (us d)
  | [], _, h, _ => by obtain ⟨o, ho, _⟩ := h; cases ho
  | o :: l, base, h, hlt => by
    rw [fillSlots]
    by_cases h2 : ∃ o' ∈ l, o'.dst = some d
    · exact fillSlots_yes us d l _ h2 (by cases o.dst <;> simpa using hlt)
    · rw [fillSlots_no us d l _ (fun o' ho' he => h2 ⟨o', ho', he⟩)]
      obtain ⟨o', ho', he⟩ := h
      rcases List.mem_cons.1 ho' with rfl | ho'
      · rw [he]
        exact Array.getElem?_setIfInBounds_self_of_lt hlt
      · exact absurd ⟨o', ho', he⟩ h2
/-- The same, and the frame behind it written out: for code that follows. -/
theorem wp_region_factsL {P : Program} {id : Nat} {ops : Array Oper} {Q : Exit → Act → World → Prop} {a0 : Act} {w : World} (hm : P.follows .mixedOrders = true) (hB : regionB ops a0.tmps.size = true)
    (F : Nat → Value → World → Prop) (hF : ∀ i v w w', F i v w → Below w.heap.size w w' → F i v w')
    (hs : StepsOkG P .any ops F w a0 ops.toList 0)
    (hend : ∀ (us : Nat → Value) w', Below w.heap.size w w' → (∀ (i : Nat) o d, ops[i]? = some o → o.dst = some d → F i (us d) w') → Q .normal { tmps := fillSlots us ops.toList a0.tmps, defers := a0.defers } w') : (Code.region id ops true).wp P Q a0 w := by
  refine wp_region_factsG hm hB F hF hs fun a w' inv => ?_
  have h := hend (fun d => a.tmps.getD d undef) w' inv.q (fun i o d hi hd => inv.fact i o d hi hd (by
    have hlt : i < ops.size := (Array.getElem?_eq_some_iff.1 hi).1
    simp [hlt]))
  have e : a = { tmps := fillSlots (fun d => a.tmps.getD d undef) ops.toList a0.tmps, defers := a0.defers } := by
    obtain ⟨tm, df⟩ := a
    have hdf : df = a0.defers := inv.defers
    have hsz : tm.size = a0.tmps.size := inv.size
    subst hdf
    congr 1
    refine Array.ext_getElem? fun d => ?_
    by_cases hlt : d < a0.tmps.size
    · by_cases hw : ∃ o ∈ ops.toList, o.dst = some d
      · rw [fillSlots_yes _ d _ _ hw hlt]
        have hd : d < tm.size := by omega
        simp [hd]
      · rw [fillSlots_no _ d _ _ (fun o ho he => hw ⟨o, ho, he⟩)]
        have h1 := inv.frame d (fun i o hi hd => absurd ⟨o, Array.mem_toList_iff.2 (Array.mem_of_getElem? hi), hd⟩ hw)
        have hd : d < tm.size := by omega
        simp only [Array.getD_eq_getD_getElem?] at h1
        rw [Array.getElem?_eq_getElem hd, Array.getElem?_eq_getElem hlt] at h1 ⊢
        exact congrArg some h1
    · rw [Array.getElem?_eq_none (by omega), Array.getElem?_eq_none (by rw [fillSlots_size]; omega)]
  rw [e]
  exact h
end Go.Proofs.Ytffenfhbiapefaa
