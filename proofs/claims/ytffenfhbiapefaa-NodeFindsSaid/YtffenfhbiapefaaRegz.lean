/- A region that draws its order, walked by an invariant that sees which operations are done and what stands in the slots. -/
import Derived.Test.YtffenfhbiapefaaRegy
namespace Go.Proofs.Ytffenfhbiapefaa
set_option linter.unusedVariables false
set_option linter.unusedSimpArgs false
open Go.RowKit

section
variable {P : Program} {ops : Array Oper} {Qx : Exit → Act → World → Prop} {md : Region.Mode}
abbrev setL (L : Nat → Bool) (i : Nat) : Nat → Bool := fun j => if i = j then true else L j
abbrev setT (t : Nat → Value) (d : Option Nat) (u : Value) : Nat → Value := fun j => match d with | none => t j | some d => if d = j then u else t j
structure RInvZ (md : Region.Mode) (ops : Array Oper) (J : (Nat → Bool) → (Nat → Value) → World → Prop) (F : Nat → Value → Prop) (a0 : Act) (listed : Array Bool) (a : Act) (w : World) : Prop where
  j : J (fun i => listed.getD i false) (fun d => a.tmps.getD d undef) w
  lsize : listed.size = ops.size
  size : a.tmps.size = a0.tmps.size
  defers : a.defers = a0.defers
  frame : ∀ d, (∀ (i : Nat) o, ops[i]? = some o → o.dst = some d → listed.getD i false = false) → a.tmps.getD d undef = a0.tmps.getD d undef
  closed : ∀ (j : Nat) o, ops[j]? = some o → listed.getD j false = true → ∀ e ∈ o.after, Region.binds md e = true → listed.getD e.on false = true
  fact : ∀ (i : Nat) o d, ops[i]? = some o → o.dst = some d → listed.getD i false = true → F i (a.tmps.getD d undef)
def StepZ (P : Program) (md : Region.Mode) (ops : Array Oper) (J : (Nat → Bool) → (Nat → Value) → World → Prop) (F : Nat → Value → Prop) (a0 : Act) (i : Nat) (o : Oper) : Prop :=
  ∀ a w (L : Nat → Bool), J L (fun d => a.tmps.getD d undef) w → (∀ j, (o.after.any fun e => Region.binds md e && e.on == j) = true → L j = true) →
      (∀ (g : Nat) og, ops[g]? = some og → (og.after.any fun e => Region.binds md e && e.on == i) = true → L g = false) → (∀ d, waitsB md ops i d = true → a.tmps.getD d undef = a0.tmps.getD d undef) →
      (∀ j, (o.after.any fun e => Region.binds md e && e.on == j) = true → ∀ oj d, ops[j]? = some oj → oj.dst = some d → F j (a.tmps.getD d undef)) →
      Region.wanted o (yielded ops a.tmps) = true ∧ OpDoes P o a w fun u w' => J (setL L i) (setT (fun d => a.tmps.getD d undef) o.dst u) w' ∧ F i u
def StepsZ (P : Program) (md : Region.Mode) (ops : Array Oper) (J : (Nat → Bool) → (Nat → Value) → World → Prop) (F : Nat → Value → Prop) (a0 : Act) : List Oper → Nat → Prop
  | [], _ => True
  | o :: l, i => StepZ P md ops J F a0 i o ∧ StepsZ P md ops J F a0 l (i + 1)
theorem StepsZ.at_ {J : (Nat → Bool) → (Nat → Value) → World → Prop} {F : Nat → Value → Prop} {a0 : Act} : ∀ {l : List Oper} {k : Nat}, StepsZ P md ops J F a0 l k → ∀ {i : Nat} {o : Oper}, l[i]? = some o → StepZ P md ops J F a0 (k + i) o
  | [], _, _, i, o, h => by cases i <;> cases h
  | x :: l, k, h, 0, o, hi => by simp at hi; subst hi; exact h.1
  | x :: l, k, h, i + 1, o, hi => by
    have := StepsZ.at_ h.2 (i := i) (o := o) (by simpa using hi)
    rwa [show k + 1 + i = k + (i + 1) by omega] at this
theorem RInvZ.all {J : (Nat → Bool) → (Nat → Value) → World → Prop} {F : Nat → Value → Prop} {a0 : Act} (hB : regionC md ops a0.tmps.size = true) {listed : Array Bool} {a : Act} {w : World} (inv : RInvZ md ops J F a0 listed a w) (hr : Region.ready md ops listed = []) : ∀ i, i < ops.size → listed.getD i false = true := by
  intro i
  induction i using Nat.strongRecOn with
  | _ i ih =>
    intro hi
    cases hl : listed.getD i false with
    | true => rfl
    | false =>
      exfalso
      obtain ⟨o, ho⟩ : ∃ o, ops[i]? = some o := ⟨_, Array.getElem?_eq_getElem hi⟩
      have hm : i ∈ Region.ready md ops listed := mem_ready.2 ⟨by
        have hs : i < listed.size := by rw [inv.lsize]; exact hi
        simp [hs] at hl ⊢; exact hl, o, ho, fun e he hbd => by
        have := (regionC_spec hB ho).1 e he hbd
        exact ih e.on this (by omega)⟩
      rw [hr] at hm
      cases hm
theorem region_anyZ {J : (Nat → Bool) → (Nat → Value) → World → Prop} {F : Nat → Value → Prop} {a0 : Act} (hB : regionC md ops a0.tmps.size = true)
    (hs : StepsZ P md ops J F a0 ops.toList 0)
    (hend : ∀ listed a w, RInvZ md ops J F a0 listed a w → (∀ j, listed.getD j false = true ↔ j < ops.size) → Qx .normal a w) :
    ∀ (fuel : Nat) (listed : Array Bool) (a : Act) (w : World), RInvZ md ops J F a0 listed a w → ((List.range ops.size).filter fun i => !listed.getD i false).length ≤ fuel → wpAny P md ops Qx fuel listed a w := by
  have fin : ∀ (fuel : Nat) (listed : Array Bool) (a : Act) (w : World), RInvZ md ops J F a0 listed a w → (∀ j, j < ops.size → listed.getD j false = true) → wpAny P md ops Qx fuel listed a w := by
    intro fuel listed a w inv hdone
    have hl : ∀ j, listed.getD j false = true ↔ j < ops.size := fun j => ⟨fun h => by
      rcases Nat.lt_or_ge j ops.size with h1 | h1
      · exact h1
      · have hs' : ¬ j < listed.size := by rw [inv.lsize]; omega
        simp [hs'] at h, hdone j⟩
    have hno : ∀ i, i ∉ Region.ready md ops listed := fun i hi => by
      obtain ⟨h1, o, ho, _⟩ := mem_ready.1 hi
      have hlt := (Array.getElem?_eq_some_iff.1 ho).1
      have h2 := hdone i hlt
      have hs' : i < listed.size := by rw [inv.lsize]; exact hlt
      simp [hs'] at h1 h2
      rw [h1] at h2; cases h2
    cases fuel with
    | zero => exact ⟨List.eq_nil_iff_forall_not_mem.2 hno, hend listed a w inv hl⟩
    | succ fuel => exact ⟨fun _ => hend listed a w inv hl, fun i hi => absurd hi (hno i)⟩
  intro fuel
  induction fuel with
  | zero =>
    intro listed a w inv hc
    refine fin 0 listed a w inv (fun i hi => ?_)
    have h0 := List.eq_nil_of_length_eq_zero (Nat.le_zero.1 hc)
    have h1 := List.filter_eq_nil_iff.1 h0 i (List.mem_range.2 (by omega))
    cases h : listed.getD i false
    · rw [h] at h1; simp at h1
    · rfl
  | succ fuel ih =>
    intro listed a w inv hc
    by_cases hdone : ∀ j, j < ops.size → listed.getD j false = true
    · exact fin (fuel + 1) listed a w inv hdone
    · refine ⟨fun hr => absurd (fun j hj => inv.all hB hr j hj) hdone, fun i hi => ?_⟩
      obtain ⟨hun, o, ho, haf⟩ := mem_ready.1 hi
      have hlt : i < ops.size := (Array.getElem?_eq_some_iff.1 ho).1
      have hls : i < listed.size := by rw [inv.lsize]; exact hlt
      have hfalse : listed.getD i false = false := by simp [hls] at hun ⊢; exact hun
      obtain ⟨hb1, hb2, hb3⟩ := regionC_spec hB ho
      have hst := StepsZ.at_ hs (i := i) (o := o) (by rw [Array.getElem?_toList]; exact ho)
      rw [Nat.zero_add] at hst
      have hcnt : ((List.range ops.size).filter fun j => !(listed.setIfInBounds i true).getD j false).length ≤ fuel := by
        have : ((List.range ops.size).filter fun j => !(listed.setIfInBounds i true).getD j false).length < ((List.range ops.size).filter fun j => !listed.getD j false).length := by
          refine filter_lt (i := i) (by rw [hfalse]; rfl) (by simp [hls]) (fun j _ hj => ?_) (List.mem_range.2 hlt)
          by_cases hij : i = j
          · subst hij; rw [hfalse]; rfl
          · rwa [getD_set_ne false hij] at hj
        omega
      have eL : (fun j => (listed.setIfInBounds i true).getD j false) = setL (fun j => listed.getD j false) i := by
        funext j
        by_cases hij : i = j
        · subst hij; simp [setL, hls]
        · rw [getD_set_ne false hij]; simp [setL, hij]
      have eT : ∀ u, (fun d => (a.put o.dst u).tmps.getD d undef) = setT (fun d => a.tmps.getD d undef) o.dst u := fun u => by
        funext d
        cases hod : o.dst with
        | none => rfl
        | some d' =>
          by_cases hij : d' = d
          · subst hij
            have hdn := hb2 d' hod
            rw [← inv.size] at hdn
            simp only [Act.put, setT, if_true, Array.getD_eq_getD_getElem?]
            rw [Array.getElem?_setIfInBounds_self_of_lt hdn]; rfl
          · simp only [Act.put, setT, if_neg hij, Array.getD_eq_getD_getElem?]
            rw [Array.getElem?_setIfInBounds_ne hij]
      have next : ∀ u w', J (setL (fun j => listed.getD j false) i) (setT (fun d => a.tmps.getD d undef) o.dst u) w' → F i u → wpAny P md ops Qx fuel (listed.setIfInBounds i true) (a.put o.dst u) w' := fun u w' hj' hf => by
        refine ih _ _ _ ⟨by rw [eL, eT]; exact hj', by simpa using inv.lsize, ?_, ?_, fun d hd => ?_, fun j oj hj hl e he hb => ?_, fun j oj d hj hjd hl => ?_⟩ hcnt
        · cases hd : o.dst <;> simp [Act.put, hd, inv.size]
        · cases hd : o.dst <;> simp [Act.put, hd, inv.defers]
        · rw [← inv.frame d fun j oj hj hjd => by
            have h1 := hd j oj hj hjd
            by_cases hij : i = j
            · subst hij; simp [hls] at h1
            · rwa [getD_set_ne false hij] at h1]
          cases hod : o.dst with
          | none => rfl
          | some d' =>
            have hne : d' ≠ d := fun h => by
              have h1 := hd i o ho (h ▸ hod)
              simp [hls] at h1
            simp only [Act.put, Array.getD_eq_getD_getElem?]
            rw [Array.getElem?_setIfInBounds_ne hne]
        · have hdep : listed.getD e.on false = true := by
            by_cases hij : i = j
            · subst hij
              have : oj = o := Option.some.inj (hj.symm.trans ho)
              subst this
              exact haf e he hb
            · rw [getD_set_ne false hij] at hl
              exact inv.closed j oj hj hl e he hb
          have hne : i ≠ e.on := fun h => by rw [← h, hfalse] at hdep; cases hdep
          rw [getD_set_ne false hne]; exact hdep
        · by_cases hij : i = j
          · subst hij
            have : oj = o := Option.some.inj (hj.symm.trans ho)
            subst this
            have hdn := hb2 d hjd
            rw [← inv.size] at hdn
            rw [hjd]
            simp only [Act.put, Array.getD_eq_getD_getElem?]
            rw [Array.getElem?_setIfInBounds_self_of_lt hdn]
            exact hf
          · rw [getD_set_ne false hij] at hl
            have h1 := inv.fact j oj d hj hjd hl
            have e : (a.put o.dst u).tmps.getD d undef = a.tmps.getD d undef := by
              cases hod : o.dst with
              | none => rfl
              | some d' =>
                have hne : d' ≠ d := fun h => hij (hb3 j oj d hj hjd (h ▸ hod))
                simp only [Act.put, Array.getD_eq_getD_getElem?]
                rw [Array.getElem?_setIfInBounds_ne hne]
            rw [e]; exact h1
      have hfr : ∀ d, waitsB md ops i d = true → a.tmps.getD d undef = a0.tmps.getD d undef := fun d hd => inv.frame d fun j oj hj hjd => by
        cases hl : listed.getD j false with
        | false => rfl
        | true =>
          exfalso
          obtain ⟨e, he, hb, hon⟩ := waitsB_spec hd hj hjd
          have := inv.closed j oj hj hl e he hb
          rw [hon, hfalse] at this; cases this
      have hdl : ∀ j, (o.after.any fun e => Region.binds md e && e.on == j) = true → listed.getD j false = true := fun j hj => by
        obtain ⟨n, hn, hn2⟩ := Array.any_eq_true'.1 hj
        simp only [Bool.and_eq_true, beq_iff_eq] at hn2
        rw [← hn2.2]
        exact haf n hn hn2.1
      have hdp : ∀ j, (o.after.any fun e => Region.binds md e && e.on == j) = true → ∀ oj d, ops[j]? = some oj → oj.dst = some d → F j (a.tmps.getD d undef) := fun j hj oj d hoj hod => inv.fact j oj d hoj hod (hdl j hj)
      have hgl : ∀ (g : Nat) og, ops[g]? = some og → (og.after.any fun e => Region.binds md e && e.on == i) = true → listed.getD g false = false := fun g og hog hany => by
        obtain ⟨y, hy, hy2⟩ := Array.any_eq_true'.1 hany
        simp only [Bool.and_eq_true, beq_iff_eq] at hy2
        cases h2 : listed.getD g false with
        | false => rfl
        | true =>
          exfalso
          have h3 := inv.closed g og hog h2 y hy hy2.1
          rw [hy2.2, hfalse] at h3; cases h3
      obtain ⟨hw, hdo⟩ := hst a w _ inv.j hdl hgl hfr hdp
      unfold wpOp
      simp only [ho]
      rw [if_pos hw]
      exact .inl (hdo _ _ fun u w' h => next u w' h.1 h.2)
end
theorem wp_region_factsZ {P : Program} {id : Nat} {ops : Array Oper} {Q : Exit → Act → World → Prop} {a0 : Act} {w : World} (hm : P.follows .mixedOrders = true) (hB : regionC .any ops a0.tmps.size = true)
    (J : (Nat → Bool) → (Nat → Value) → World → Prop) (F : Nat → Value → Prop) (hJ0 : J (fun _ => false) (fun d => a0.tmps.getD d undef) w.drew)
    (hs : StepsZ P .any ops J F a0 ops.toList 0)
    (hend : ∀ (t : Nat → Value) (L : Nat → Bool) w', (∀ i, i < ops.size → L i = true) → J L t w' → (∀ d, a0.tmps.size ≤ d → True) → (∀ (i : Nat) o d, ops[i]? = some o → o.dst = some d → F i (t d)) → Q .normal { tmps := fillSlots t ops.toList a0.tmps, defers := a0.defers } w') : (Code.region id ops true).wp P Q a0 w := by
  refine wp_region_any hm (region_anyZ hB hs (fun listed a w' inv hl => ?_) ops.size _ a0 _ ⟨?_, by simp, rfl, rfl, fun _ _ => rfl, fun j o hj hl => ?_, fun i o d hi _ hl => ?_⟩ ?_)
  · have h := hend (fun d => a.tmps.getD d undef) _ w' (fun i hi => (hl i).2 hi) inv.j (fun _ _ => trivial) (fun i o d hi hd => inv.fact i o d hi hd ((hl i).2 (Array.getElem?_eq_some_iff.1 hi).1))
    have e : a = { tmps := fillSlots (fun d => a.tmps.getD d undef) ops.toList a0.tmps, defers := a0.defers } := by
      obtain ⟨tm, df⟩ := a
      have hdf : df = a0.defers := inv.defers
      have hsz : tm.size = a0.tmps.size := inv.size
      subst hdf
      congr 1
      refine Array.ext_getElem? fun d => ?_
      by_cases hlt : d < a0.tmps.size
      · by_cases hw : ∃ o ∈ ops.toList, o.dst = some d
        · rw [fillSlots_yes _ d _ _ hw hlt]
          have hd : d < tm.size := by omega
          simp [hd]
        · rw [fillSlots_no _ d _ _ (fun o ho he => hw ⟨o, ho, he⟩)]
          have h1 := inv.frame d (fun i o hi hd => by
            cases hli : listed.getD i false with
            | false => rfl
            | true =>
              exfalso
              refine hw ⟨o, List.mem_of_getElem? (i := i) ?_, hd⟩
              rw [Array.getElem?_toList]; exact hi)
          have hd : d < tm.size := by omega
          simp only [Array.getD_eq_getD_getElem?] at h1
          rw [Array.getElem?_eq_getElem hd, Array.getElem?_eq_getElem hlt] at h1 ⊢
          exact congrArg some h1
      · rw [Array.getElem?_eq_none (by omega), Array.getElem?_eq_none (by rw [fillSlots_size]; omega)]
    rw [e]
    exact h
  · have : (fun i => (Array.replicate ops.size false).getD i false) = fun _ => false := by
      funext i
      simp only [Array.getD_eq_getD_getElem?, Array.getElem?_replicate]
      split <;> rfl
    rw [this]
    exact hJ0
  · have hlt : j < ops.size := (Array.getElem?_eq_some_iff.1 hj).1
    simp [hlt] at hl
  · have hlt : i < ops.size := (Array.getElem?_eq_some_iff.1 hi).1
    simp [hlt] at hl
  · refine Nat.le_trans (List.length_filter_le _ _) ?_
    simp
end Go.Proofs.Ytffenfhbiapefaa
