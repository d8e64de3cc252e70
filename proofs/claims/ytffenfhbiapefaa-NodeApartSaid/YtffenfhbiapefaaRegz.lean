/- A region that draws its order, walked by facts, in which some operations turn one thing that is there (an Out, a row), one behind the other: ghost operations. The rest only make memory. From operation k on the tail is walked as a list. -/
import Derived.Test.YtffenfhbiapefaaRegh
namespace Go.Proofs.Ytffenfhbiapefaa
set_option linter.unusedVariables false
set_option linter.unusedSimpArgs false
open Go.RowKit

section
section
variable {P : Program} {ops : Array Oper} {Qx : Exit → Act → World → Prop} {md : Region.Mode} {S : Type}
/-- What stands while the region is under way: c ghost operations are done; the thing is v. -/
structure RInvX (md : Region.Mode) (ops : Array Oper) (J : Nat → S → World → Prop) (F : Nat → Value → S → World → Prop) (gh : Nat → Option Nat) (a0 : Act) (listed : Array Bool) (a : Act) (w : World) (c : Nat) (v : S) : Prop where
  j : J c v w
  done : ∀ i n, i < ops.size → gh i = some n → (listed.getD i false = true ↔ n < c)
  top : c = 0 ∨ ∃ i, i < ops.size ∧ gh i = some (c - 1)
  lsize : listed.size = ops.size
  size : a.tmps.size = a0.tmps.size
  defers : a.defers = a0.defers
  frame : ∀ d, (∀ (i : Nat) o, ops[i]? = some o → o.dst = some d → listed.getD i false = false) → a.tmps.getD d undef = a0.tmps.getD d undef
  closed : ∀ (j : Nat) o, ops[j]? = some o → listed.getD j false = true → ∀ e ∈ o.after, Region.binds md e = true → listed.getD e.on false = true
  fact : ∀ (i : Nat) o d, ops[i]? = some o → o.dst = some d → listed.getD i false = true → F i (a.tmps.getD d undef) v w
/-- What one operation must do. -/
def StepX (P : Program) (md : Region.Mode) (ops : Array Oper) (J : Nat → S → World → Prop) (F : Nat → Value → S → World → Prop) (Gh : S → World → S → World → Prop) (gh : Nat → Option Nat) (a0 : Act) (i : Nat) (o : Oper) : Prop :=
  match gh i with
  | none => ∀ a w (v : S) c, J c v w → (∀ d, waitsB md ops i d = true → a.tmps.getD d undef = a0.tmps.getD d undef) →
      (∀ j, (o.after.any fun e => Region.binds md e && e.on == j) = true → ∀ oj d, ops[j]? = some oj → oj.dst = some d → F j (a.tmps.getD d undef) v w) →
      (Region.wanted o (yielded ops a.tmps) = true ∧ OpDoes P o a w fun u w' => Below w.heap.size w w' ∧ F i u v w') ∨ (Region.wanted o (yielded ops a.tmps) = false ∧ F i undef v w)
  | some n => ∀ a w (v : S), J n v w → (∀ d, waitsB md ops i d = true → a.tmps.getD d undef = a0.tmps.getD d undef) →
      (∀ j, (o.after.any fun e => Region.binds md e && e.on == j) = true → ∀ oj d, ops[j]? = some oj → oj.dst = some d → F j (a.tmps.getD d undef) v w) →
      Region.wanted o (yielded ops a.tmps) = true ∧ OpDoes P o a w fun u w' => ∃ v', Gh v w v' w' ∧ J (n + 1) v' w' ∧ F i u v' w'
def StepsX (P : Program) (md : Region.Mode) (ops : Array Oper) (J : Nat → S → World → Prop) (F : Nat → Value → S → World → Prop) (Gh : S → World → S → World → Prop) (gh : Nat → Option Nat) (a0 : Act) : List Oper → Nat → Prop
  | [], _ => True
  | o :: l, i => StepX P md ops J F Gh gh a0 i o ∧ StepsX P md ops J F Gh gh a0 l (i + 1)
theorem StepsX.at_ {J : Nat → S → World → Prop} {F : Nat → Value → S → World → Prop} {Gh : S → World → S → World → Prop} {gh : Nat → Option Nat} {a0 : Act} : ∀ {l : List Oper} {k : Nat}, StepsX P md ops J F Gh gh a0 l k → ∀ {i : Nat} {o : Oper}, l[i]? = some o → StepX P md ops J F Gh gh a0 (k + i) o
  | [], _, _, i, o, h => by cases i <;> cases h
  | x :: l, k, h, 0, o, hi => by simp at hi; subst hi; exact h.1
  | x :: l, k, h, i + 1, o, hi => by
    have := StepsX.at_ h.2 (i := i) (o := o) (by simpa using hi)
    rwa [show k + 1 + i = k + (i + 1) by omega] at this
/-- The ghost operations wait for one another; no number stands twice; those of the tail are none. -/
def chainB (md : Region.Mode) (ops : Array Oper) (gh : Nat → Option Nat) (k : Nat) : Bool :=
  (List.range ops.size).all fun i =>
    match gh i with
    | none => true
    | some n => decide (i < k) && (n == 0 || (List.range i).any fun j => gh j == some (n - 1) && (reachL md ops i (depsL md ops i)).contains j) && (List.range ops.size).all fun j => !(gh j == some n) || j == i
theorem chainB_spec {gh : Nat → Option Nat} {k : Nat} (h : chainB md ops gh k = true) {i n : Nat} (hi : i < ops.size) (hg : gh i = some n) :
    i < k ∧ (0 < n → ∃ j, j < i ∧ gh j = some (n - 1) ∧ j ∈ reachL md ops i (depsL md ops i)) ∧ ∀ j, j < ops.size → gh j = some n → j = i := by
  have h1 := List.all_eq_true.1 h i (List.mem_range.2 hi)
  simp only [hg, Bool.and_eq_true, decide_eq_true_eq] at h1
  obtain ⟨⟨h1, h2⟩, h3⟩ := h1
  refine ⟨h1, fun hn => ?_, fun j hj hgj => ?_⟩
  · rcases Bool.or_eq_true _ _ ▸ h2 with h2 | h2
    · have := beq_iff_eq.1 h2; omega
    · obtain ⟨j, hj, hj2⟩ := List.any_eq_true.1 h2
      simp only [Bool.and_eq_true, beq_iff_eq] at hj2
      exact ⟨j, List.mem_range.1 hj, hj2.1, by simpa using hj2.2⟩
  · have h4 := List.all_eq_true.1 h3 j (List.mem_range.2 hj)
    simp only [hgj, beq_self_eq_true, Bool.not_true, Bool.false_or, beq_iff_eq] at h4
    exact h4
/-- How many ghost operations there are. -/
def countB (ops : Array Oper) (gh : Nat → Option Nat) (m : Nat) : Bool :=
  ((List.range ops.size).all fun i => match gh i with | none => true | some n => decide (n < m)) && (m == 0 || (List.range ops.size).any fun i => gh i == some (m - 1))
theorem countB_spec {gh : Nat → Option Nat} {m : Nat} (h : countB ops gh m = true) : (∀ i n, i < ops.size → gh i = some n → n < m) ∧ (m = 0 ∨ ∃ i, i < ops.size ∧ gh i = some (m - 1)) := by
  unfold countB at h
  rw [Bool.and_eq_true] at h
  refine ⟨fun i n hi hg => ?_, ?_⟩
  · have h1 := List.all_eq_true.1 h.1 i (List.mem_range.2 hi)
    simp only [hg, decide_eq_true_eq] at h1
    exact h1
  · rcases Bool.or_eq_true _ _ ▸ h.2 with h2 | h2
    · exact .inl (beq_iff_eq.1 h2)
    · obtain ⟨i, hi, hg⟩ := List.any_eq_true.1 h2
      exact .inr ⟨i, List.mem_range.1 hi, beq_iff_eq.1 hg⟩
theorem RInvX.all {J : Nat → S → World → Prop} {F : Nat → Value → S → World → Prop} {gh : Nat → Option Nat} {a0 : Act} (hB : regionB ops a0.tmps.size = true) {listed : Array Bool} {a : Act} {w : World} {c : Nat} {v : S} (inv : RInvX md ops J F gh a0 listed a w c v) (hr : Region.ready md ops listed = []) : ∀ i, i < ops.size → listed.getD i false = true := by
  intro i
  induction i using Nat.strongRecOn with
  | _ i ih =>
    intro hi
    cases hl : listed.getD i false with
    | true => rfl
    | false =>
      exfalso
      obtain ⟨o, ho⟩ : ∃ o, ops[i]? = some o := ⟨_, Array.getElem?_eq_getElem hi⟩
      have hm : i ∈ Region.ready md ops listed := mem_ready.2 ⟨by
        have hs : i < listed.size := by rw [inv.lsize]; exact hi
        simp [hs] at hl ⊢; exact hl, o, ho, fun e he _ => by
        have := (regionB_spec hB ho).1 e he
        exact ih e.on this (by omega)⟩
      rw [hr] at hm
      cases hm
theorem region_anyX {k : Nat} (hk : k ≤ ops.size) {J : Nat → S → World → Prop} {F : Nat → Value → S → World → Prop} {Gh : S → World → S → World → Prop} {gh : Nat → Option Nat} {a0 : Act} (hB : regionB ops a0.tmps.size = true) (hT : tailB md ops k = true) (hC : chainB md ops gh k = true)
    (hJ : ∀ c v w w', J c v w → Below w.heap.size w w' → J c v w') (hF : ∀ i u v w w', F i u v w → Below w.heap.size w w' → F i u v w') (hG : ∀ i u v w v' w', F i u v w → Gh v w v' w' → F i u v' w')
    (hs : StepsX P md ops J F Gh gh a0 (ops.toList.take k) 0)
    (hend : ∀ listed a w c v, RInvX md ops J F gh a0 listed a w c v → (∀ j, listed.getD j false = true ↔ j < k) → wpList P ops Qx (ops.toList.drop k) a w) :
    ∀ (fuel : Nat) (listed : Array Bool) (a : Act) (w : World) (c : Nat) (v : S), RInvX md ops J F gh a0 listed a w c v → (∀ j, j < ops.size → listed.getD j false = true → j < k) → ((List.range ops.size).filter fun i => !listed.getD i false).length ≤ fuel → wpAny P md ops Qx fuel listed a w := by
  have fin : ∀ (fuel : Nat) (listed : Array Bool) (a : Act) (w : World) (c : Nat) (v : S), RInvX md ops J F gh a0 listed a w c v → (∀ j, j < ops.size → listed.getD j false = true → j < k) → (∀ j, j < k → listed.getD j false = true) → ((List.range ops.size).filter fun i => !listed.getD i false).length ≤ fuel → wpAny P md ops Qx fuel listed a w := by
    intro fuel listed a w c v inv hlow hdone hc
    have hl : ∀ j, listed.getD j false = true ↔ j < k := fun j => ⟨fun h => by
      rcases Nat.lt_or_ge j ops.size with h1 | h1
      · exact hlow j h1 h
      · have hs' : ¬ j < listed.size := by rw [inv.lsize]; omega
        simp [hs'] at h, hdone j⟩
    have hcount : ops.size - k ≤ fuel := by
      refine Nat.le_trans ?_ hc
      have : ((List.range ops.size).filter fun i => !listed.getD i false).length = ops.size - k := by
        have e : ((List.range ops.size).filter fun i => !listed.getD i false) = (List.range' k (ops.size - k)) := by
          rw [List.range_eq_range', show ops.size = k + (ops.size - k) by omega, ← List.range'_append_1, List.filter_append, Nat.zero_add, Nat.add_sub_cancel_left]
          rw [List.filter_eq_nil_iff.2, List.nil_append, List.filter_eq_self.2]
          · intro x hx
            have := List.mem_range'_1.1 hx
            cases h : listed.getD x false
            · rfl
            · have := (hl x).1 h; omega
          · intro x hx
            have := List.mem_range'_1.1 hx
            rw [(hl x).2 (by omega)]; simp
        rw [e, List.length_range']
      omega
    exact any_tail hT hB fuel k listed a w (Nat.le_refl _) hk (by omega) inv.lsize hl (hend listed a w c v inv hl)
  intro fuel
  induction fuel with
  | zero =>
    intro listed a w c v inv hlow hc
    refine fin 0 listed a w c v inv hlow (fun i hi => ?_) hc
    have h0 := List.eq_nil_of_length_eq_zero (Nat.le_zero.1 hc)
    have h1 := List.filter_eq_nil_iff.1 h0 i (List.mem_range.2 (by omega))
    cases h : listed.getD i false
    · rw [h] at h1; simp at h1
    · rfl
  | succ fuel ih =>
    intro listed a w c v inv hlow hc
    by_cases hdone : ∀ j, j < k → listed.getD j false = true
    · exact fin (fuel + 1) listed a w c v inv hlow hdone hc
    · refine ⟨fun hr => absurd (fun j hj => inv.all hB hr j (by omega)) hdone, fun i hi => ?_⟩
      obtain ⟨hun, o, ho, haf⟩ := mem_ready.1 hi
      have hlt : i < ops.size := (Array.getElem?_eq_some_iff.1 ho).1
      have hls : i < listed.size := by rw [inv.lsize]; exact hlt
      have hfalse : listed.getD i false = false := by simp [hls] at hun ⊢; exact hun
      have hik : i < k := by
        rcases Nat.lt_or_ge i k with h | h
        · exact h
        · exact absurd (fun j hj => tail_all hT inv.closed ho h haf j (by omega)) hdone
      obtain ⟨hb1, hb2, hb3⟩ := regionB_spec hB ho
      have hst := StepsX.at_ hs (i := i) (o := o) (by rw [List.getElem?_take, if_pos hik, Array.getElem?_toList]; exact ho)
      rw [Nat.zero_add] at hst
      have hcnt : ((List.range ops.size).filter fun j => !(listed.setIfInBounds i true).getD j false).length ≤ fuel := by
        have : ((List.range ops.size).filter fun j => !(listed.setIfInBounds i true).getD j false).length < ((List.range ops.size).filter fun j => !listed.getD j false).length := by
          refine filter_lt (i := i) (by rw [hfalse]; rfl) (by simp [hls]) (fun j _ hj => ?_) (List.mem_range.2 hlt)
          by_cases hij : i = j
          · subst hij; rw [hfalse]; rfl
          · rwa [getD_set_ne false hij] at hj
        omega
      have next : ∀ u w' c' v', J c' v' w' → (∀ i' n, i' < ops.size → gh i' = some n → ((listed.setIfInBounds i true).getD i' false = true ↔ n < c')) → (c' = 0 ∨ ∃ i, i < ops.size ∧ gh i = some (c' - 1)) → (∀ j u', F j u' v w → F j u' v' w') → F i u v' w' → wpAny P md ops Qx fuel (listed.setIfInBounds i true) (a.put o.dst u) w' := fun u w' c' v' hj' hd' htop hkeep hf => by
        refine ih _ _ _ c' v' ⟨hj', hd', htop, by simpa using inv.lsize, ?_, ?_, fun d hd => ?_, fun j oj hj hl e he hb => ?_, fun j oj d hj hjd hl => ?_⟩ (fun j hj hl => by
          by_cases hij : i = j
          · omega
          · rw [getD_set_ne false hij] at hl; exact hlow j hj hl) hcnt
        · cases hd : o.dst <;> simp [Act.put, hd, inv.size]
        · cases hd : o.dst <;> simp [Act.put, hd, inv.defers]
        · rw [← inv.frame d fun j oj hj hjd => by
            have h1 := hd j oj hj hjd
            by_cases hij : i = j
            · subst hij; simp [hls] at h1
            · rwa [getD_set_ne false hij] at h1]
          cases hod : o.dst with
          | none => rfl
          | some d' =>
            have hne : d' ≠ d := fun h => by
              have h1 := hd i o ho (h ▸ hod)
              simp [hls] at h1
            simp only [Act.put, Array.getD_eq_getD_getElem?]
            rw [Array.getElem?_setIfInBounds_ne hne]
        · have hdep : listed.getD e.on false = true := by
            by_cases hij : i = j
            · subst hij
              have : oj = o := Option.some.inj (hj.symm.trans ho)
              subst this
              exact haf e he hb
            · rw [getD_set_ne false hij] at hl
              exact inv.closed j oj hj hl e he hb
          have hne : i ≠ e.on := fun h => by rw [← h, hfalse] at hdep; cases hdep
          rw [getD_set_ne false hne]; exact hdep
        · by_cases hij : i = j
          · subst hij
            have : oj = o := Option.some.inj (hj.symm.trans ho)
            subst this
            have hdn := hb2 d hjd
            rw [← inv.size] at hdn
            rw [hjd]
            simp only [Act.put, Array.getD_eq_getD_getElem?]
            rw [Array.getElem?_setIfInBounds_self_of_lt hdn]
            exact hf
          · rw [getD_set_ne false hij] at hl
            have h1 := hkeep j _ (inv.fact j oj d hj hjd hl)
            have e : (a.put o.dst u).tmps.getD d undef = a.tmps.getD d undef := by
              cases hod : o.dst with
              | none => rfl
              | some d' =>
                have hne : d' ≠ d := fun h => hij (hb3 j oj d hj hjd (h ▸ hod))
                simp only [Act.put, Array.getD_eq_getD_getElem?]
                rw [Array.getElem?_setIfInBounds_ne hne]
            rw [e]; exact h1
      have hfr : ∀ d, waitsB md ops i d = true → a.tmps.getD d undef = a0.tmps.getD d undef := fun d hd => inv.frame d fun j oj hj hjd => by
        cases hl : listed.getD j false with
        | false => rfl
        | true =>
          exfalso
          obtain ⟨e, he, hb, hon⟩ := waitsB_spec hd hj hjd
          have := inv.closed j oj hj hl e he hb
          rw [hon, hfalse] at this; cases this
      have hdp : ∀ j, (o.after.any fun e => Region.binds md e && e.on == j) = true → ∀ oj d, ops[j]? = some oj → oj.dst = some d → F j (a.tmps.getD d undef) v w := fun j hj oj d hoj hod => by
        obtain ⟨n, hn, hn2⟩ := Array.any_eq_true'.1 hj
        simp only [Bool.and_eq_true, beq_iff_eq] at hn2
        refine inv.fact j oj d hoj hod ?_
        rw [← hn2.2]
        exact haf n hn hn2.1
      unfold wpOp
      simp only [ho]
      unfold StepX at hst
      cases hgi : gh i with
      | none =>
        rw [hgi] at hst
        have hd' : ∀ i' n, i' < ops.size → gh i' = some n → ((listed.setIfInBounds i true).getD i' false = true ↔ n < c) := fun i' n hi' hg => by
          have hne : i ≠ i' := fun e => by rw [e, hg] at hgi; cases hgi
          rw [getD_set_ne false hne]; exact inv.done i' n hi' hg
        rcases hst a w v c inv.j hfr hdp with ⟨hw, hdo⟩ | ⟨hw, hf⟩
        · rw [if_pos hw]
          exact .inl (hdo _ _ fun u w' h => next u w' c v (hJ c v w w' inv.j h.1) hd' inv.top (fun j u' hf => hF j u' v w w' hf h.1) h.2)
        · rw [if_neg (by rw [hw]; exact Bool.false_ne_true)]
          exact next undef w c v inv.j hd' inv.top (fun j u' hf => hf) hf
      | some n =>
        rw [hgi] at hst
        obtain ⟨c1, c2, c3⟩ := chainB_spec hC hlt hgi
        have hcn : c = n := by
          have h1 : ¬ n < c := fun h => by have := (inv.done i n hlt hgi).2 h; rw [hfalse] at this; cases this
          rcases Nat.lt_or_ge c n with h2 | h2
          · obtain ⟨j, hj, hgj, hm⟩ := c2 (by omega)
            have h3 := reachL_sub (md := md) (ops := ops) (L := fun j => listed.getD j false = true) inv.closed i _ (fun x hx => by
              obtain ⟨o', ho', e, he, hb, rfl⟩ := mem_depsL hx
              obtain rfl : o' = o := Option.some.inj (ho'.symm.trans ho)
              exact haf e he hb) j hm
            have := (inv.done j (n - 1) (by omega) hgj).1 h3
            omega
          · omega
        subst hcn
        obtain ⟨hw, hdo⟩ := hst a w v inv.j hfr hdp
        rw [if_pos hw]
        exact .inl (hdo _ _ fun u w' ⟨v', h1, h2, h3⟩ => next u w' (c + 1) v' h2 (fun i' m hi' hg => by
          by_cases hii : i = i'
          · subst hii
            rw [hgi] at hg; injection hg with hg
            simp [hls]; omega
          · rw [getD_set_ne false hii, inv.done i' m hi' hg]
            have hne : m ≠ c := fun e => hii (c3 i' hi' (by rw [hg, e])).symm
            omega) (.inr ⟨i, hlt, by rw [Nat.add_sub_cancel]; exact hgi⟩) (fun j u' hf => hG j u' v w v' w' hf h1) h3)
end
theorem wp_region_factsX {P : Program} {S : Type} {id : Nat} {ops : Array Oper} {Q : Exit → Act → World → Prop} {a0 : Act} {w : World} (k : Nat) (hk : k ≤ ops.size) (hm : P.follows .mixedOrders = true) (hB : regionB ops a0.tmps.size = true) (hT : tailB .any ops k = true)
    (J : Nat → S → World → Prop) (F : Nat → Value → S → World → Prop) (Gh : S → World → S → World → Prop) (gh : Nat → Option Nat) (hC : chainB .any ops gh k = true) (m : Nat) (hM : countB ops gh m = true)
    (hJ : ∀ c v w w', J c v w → Below w.heap.size w w' → J c v w') (hF : ∀ i u v w w', F i u v w → Below w.heap.size w w' → F i u v w') (hG : ∀ i u v w v' w', F i u v w → Gh v w v' w' → F i u v' w')
    (v0 : S) (hJ0 : J 0 v0 w.drew)
    (hs : StepsX P .any ops J F Gh gh a0 (ops.toList.take k) 0)
    (hend : ∀ (us : Nat → Value) w' v, J m v w' → (∀ (i : Nat) o d, i < k → ops[i]? = some o → o.dst = some d → F i (us d) v w') → wpList P ops Q (ops.toList.drop k) { tmps := fillSlots us (ops.toList.take k) a0.tmps, defers := a0.defers } w') : (Code.region id ops true).wp P Q a0 w := by
  refine wp_region_any hm (region_anyX hk hB hT hC hJ hF hG hs (fun listed a w' c v inv hl => ?_) ops.size _ a0 _ 0 v0 ⟨hJ0, fun i n hi hg => ?_, .inl rfl, by simp, rfl, rfl, fun _ _ => rfl, fun j o hj hl => ?_, fun i o d hi _ hl => ?_⟩ (fun j hj hl => ?_) ?_)
  · obtain rfl : c = m := by
      obtain ⟨h1, h2⟩ := countB_spec hM
      have h3 : m ≤ c := by
        rcases h2 with rfl | ⟨i, hi, hg⟩
        · omega
        · have := (inv.done i (m - 1) hi hg).1 ((hl i).2 (chainB_spec hC hi hg).1)
          omega
      rcases inv.top with h4 | ⟨i, hi, hg⟩
      · omega
      · have := h1 i (c - 1) hi hg; omega
    have h := hend (fun d => a.tmps.getD d undef) w' v inv.j (fun i o d hik hi hd => inv.fact i o d hi hd ((hl i).2 hik))
    have e : a = { tmps := fillSlots (fun d => a.tmps.getD d undef) (ops.toList.take k) a0.tmps, defers := a0.defers } := by
      obtain ⟨tm, df⟩ := a
      have hdf : df = a0.defers := inv.defers
      have hsz : tm.size = a0.tmps.size := inv.size
      subst hdf
      congr 1
      refine Array.ext_getElem? fun d => ?_
      by_cases hlt : d < a0.tmps.size
      · by_cases hw : ∃ o ∈ ops.toList.take k, o.dst = some d
        · rw [fillSlots_yes _ d _ _ hw hlt]
          have hd : d < tm.size := by omega
          simp [hd]
        · rw [fillSlots_no _ d _ _ (fun o ho he => hw ⟨o, ho, he⟩)]
          have h1 := inv.frame d (fun i o hi hd => by
            cases hli : listed.getD i false with
            | false => rfl
            | true =>
              exfalso
              have hik := (hl i).1 hli
              refine hw ⟨o, List.mem_of_getElem? (i := i) ?_, hd⟩
              rw [List.getElem?_take, if_pos hik, Array.getElem?_toList]; exact hi)
          have hd : d < tm.size := by omega
          simp only [Array.getD_eq_getD_getElem?] at h1
          rw [Array.getElem?_eq_getElem hd, Array.getElem?_eq_getElem hlt] at h1 ⊢
          exact congrArg some h1
      · rw [Array.getElem?_eq_none (by omega), Array.getElem?_eq_none (by rw [fillSlots_size]; omega)]
    rw [e]
    exact h
  · simp [hi]
  · have hlt : j < ops.size := (Array.getElem?_eq_some_iff.1 hj).1
    simp [hlt] at hl
  · have hlt : i < ops.size := (Array.getElem?_eq_some_iff.1 hi).1
    simp [hlt] at hl
  · simp [hj] at hl
  · refine Nat.le_trans (List.length_filter_le _ _) ?_
    simp
/-- A fact that stays as memory grows, and as the thing is turned. -/
inductive Fcx (S : Type) (Gh : S → World → S → World → Prop) where
  | any
  | is (v : Value)
  | that (p : Value → S → World → Prop) (hp : ∀ u v w w', p u v w → Below w.heap.size w w' → p u v w') (hg : ∀ u v w v' w', p u v w → Gh v w v' w' → p u v' w')
def Fcx.holds {S : Type} {Gh : S → World → S → World → Prop} : Fcx S Gh → Value → S → World → Prop
  | .any, _, _, _ => True
  | .is v, u, _, _ => u = v
  | .that p _ _, u, v, w => p u v w
def factsX {S : Type} {Gh : S → World → S → World → Prop} (fs : List (Fcx S Gh)) (i : Nat) : Value → S → World → Prop := (fs.getD i .any).holds
theorem factsX_q {S : Type} {Gh : S → World → S → World → Prop} (fs : List (Fcx S Gh)) (i : Nat) (u : Value) (v : S) (w w' : World) (h : factsX fs i u v w) (hq : Below w.heap.size w w') : factsX fs i u v w' := by
  unfold factsX at *
  cases hf : fs.getD i .any with
  | any => trivial
  | is x => rw [hf] at h; exact h
  | that p hp hg => rw [hf] at h; exact hp u v w w' h hq
theorem factsX_g {S : Type} {Gh : S → World → S → World → Prop} (fs : List (Fcx S Gh)) (i : Nat) (u : Value) (v : S) (w : World) (v' : S) (w' : World) (h : factsX fs i u v w) (hg' : Gh v w v' w') : factsX fs i u v' w' := by
  unfold factsX at *
  cases hf : fs.getD i .any with
  | any => trivial
  | is x => rw [hf] at h; exact h
  | that p hp hg => rw [hf] at h; exact hg u v w v' w' h hg'
end

section
section
variable {P : Program} {ops : Array Oper} {Qx : Exit → Act → World → Prop} {md : Region.Mode} {S : Type}
/-- What stands while the region is under way: c ghost operations are done; the thing is v. -/
structure RInvY (md : Region.Mode) (ops : Array Oper) (J : Nat → S → World → Prop) (F : Nat → Value → S → World → Prop) (gh : Nat → Option Nat) (a0 : Act) (listed : Array Bool) (a : Act) (w : World) (c : Nat) (v : S) : Prop where
  j : J c v w
  done : ∀ i n, i < ops.size → gh i = some n → (listed.getD i false = true ↔ n < c)
  top : c = 0 ∨ ∃ i, i < ops.size ∧ gh i = some (c - 1)
  lsize : listed.size = ops.size
  size : a.tmps.size = a0.tmps.size
  defers : a.defers = a0.defers
  frame : ∀ d, (∀ (i : Nat) o, ops[i]? = some o → o.dst = some d → listed.getD i false = false) → a.tmps.getD d undef = a0.tmps.getD d undef
  closed : ∀ (j : Nat) o, ops[j]? = some o → listed.getD j false = true → ∀ e ∈ o.after, Region.binds md e = true → listed.getD e.on false = true
  fact : ∀ (i : Nat) o d, ops[i]? = some o → o.dst = some d → listed.getD i false = true → F i (a.tmps.getD d undef) v w
/-- What one operation must do. -/
def StepY (P : Program) (md : Region.Mode) (ops : Array Oper) (J : Nat → S → World → Prop) (F : Nat → Value → S → World → Prop) (Gh : S → World → S → World → Prop) (gh : Nat → Option Nat) (a0 : Act) (i : Nat) (o : Oper) : Prop :=
  match gh i with
  | none => ∀ a w (v : S) c, J c v w → (∀ (g : Nat) og n, ops[g]? = some og → gh g = some n → (og.after.any fun e => Region.binds md e && e.on == i) = true → c ≤ n) → (∀ d, waitsB md ops i d = true → a.tmps.getD d undef = a0.tmps.getD d undef) →
      (∀ j, (o.after.any fun e => Region.binds md e && e.on == j) = true → ∀ oj d, ops[j]? = some oj → oj.dst = some d → F j (a.tmps.getD d undef) v w) →
      (Region.wanted o (yielded ops a.tmps) = true ∧ OpDoes P o a w fun u w' => Below w.heap.size w w' ∧ F i u v w') ∨ (Region.wanted o (yielded ops a.tmps) = false ∧ F i undef v w)
  | some n => ∀ a w (v : S), J n v w → (∀ d, waitsB md ops i d = true → a.tmps.getD d undef = a0.tmps.getD d undef) →
      (∀ j, (o.after.any fun e => Region.binds md e && e.on == j) = true → ∀ oj d, ops[j]? = some oj → oj.dst = some d → F j (a.tmps.getD d undef) v w) →
      Region.wanted o (yielded ops a.tmps) = true ∧ OpDoes P o a w fun u w' => ∃ v', Gh v w v' w' ∧ J (n + 1) v' w' ∧ F i u v' w'
def StepsY (P : Program) (md : Region.Mode) (ops : Array Oper) (J : Nat → S → World → Prop) (F : Nat → Value → S → World → Prop) (Gh : S → World → S → World → Prop) (gh : Nat → Option Nat) (a0 : Act) : List Oper → Nat → Prop
  | [], _ => True
  | o :: l, i => StepY P md ops J F Gh gh a0 i o ∧ StepsY P md ops J F Gh gh a0 l (i + 1)
theorem StepsY.at_ {J : Nat → S → World → Prop} {F : Nat → Value → S → World → Prop} {Gh : S → World → S → World → Prop} {gh : Nat → Option Nat} {a0 : Act} : ∀ {l : List Oper} {k : Nat}, StepsY P md ops J F Gh gh a0 l k → ∀ {i : Nat} {o : Oper}, l[i]? = some o → StepY P md ops J F Gh gh a0 (k + i) o
  | [], _, _, i, o, h => by cases i <;> cases h
  | x :: l, k, h, 0, o, hi => by simp at hi; subst hi; exact h.1
  | x :: l, k, h, i + 1, o, hi => by
    have := StepsY.at_ h.2 (i := i) (o := o) (by simpa using hi)
    rwa [show k + 1 + i = k + (i + 1) by omega] at this
/-- As regionB, of the edges that bind. -/
def regionC (md : Region.Mode) (ops : Array Oper) (n : Nat) : Bool :=
  (List.range ops.size).all fun i =>
    match ops[i]? with
    | none => true
    | some o => (o.after.all fun e => !Region.binds md e || decide (e.on < i)) && (match o.dst with | none => true | some d => decide (d < n)) &&
      (List.range ops.size).all fun j =>
        match ops[j]? with
        | none => true
        | some oj => i == j || oj.dst.isNone || !(o.dst == oj.dst)
theorem regionC_spec {n : Nat} (h : regionC md ops n = true) {i : Nat} {o : Oper} (hi : ops[i]? = some o) :
    (∀ e ∈ o.after, Region.binds md e = true → e.on < i) ∧ (∀ d, o.dst = some d → d < n) ∧ ∀ (j : Nat) oj d, ops[j]? = some oj → oj.dst = some d → o.dst = some d → i = j := by
  have hlt : i < ops.size := (Array.getElem?_eq_some_iff.1 hi).1
  have h1 := List.all_eq_true.1 h i (List.mem_range.2 hlt)
  simp only [hi, Bool.and_eq_true] at h1
  obtain ⟨⟨h2, h3⟩, h4⟩ := h1
  refine ⟨fun e he hb => ?_, fun d hd => ?_, fun j oj d hj hjd hd => ?_⟩
  · have := Array.all_eq_true_iff_forall_mem.1 h2 e he
    rw [hb] at this
    simpa using this
  · rw [hd] at h3; exact of_decide_eq_true h3
  · have hjlt : j < ops.size := (Array.getElem?_eq_some_iff.1 hj).1
    have h5 := List.all_eq_true.1 h4 j (List.mem_range.2 hjlt)
    simp only [hj, Bool.or_eq_true, beq_iff_eq] at h5
    rcases h5 with (h5 | h5) | h5
    · exact h5
    · rw [hjd] at h5; cases h5
    · rw [hd, hjd] at h5; simp at h5
theorem RInvY.all {J : Nat → S → World → Prop} {F : Nat → Value → S → World → Prop} {gh : Nat → Option Nat} {a0 : Act} (hB : regionC md ops a0.tmps.size = true) {listed : Array Bool} {a : Act} {w : World} {c : Nat} {v : S} (inv : RInvY md ops J F gh a0 listed a w c v) (hr : Region.ready md ops listed = []) : ∀ i, i < ops.size → listed.getD i false = true := by
  intro i
  induction i using Nat.strongRecOn with
  | _ i ih =>
    intro hi
    cases hl : listed.getD i false with
    | true => rfl
    | false =>
      exfalso
      obtain ⟨o, ho⟩ : ∃ o, ops[i]? = some o := ⟨_, Array.getElem?_eq_getElem hi⟩
      have hm : i ∈ Region.ready md ops listed := mem_ready.2 ⟨by
        have hs : i < listed.size := by rw [inv.lsize]; exact hi
        simp [hs] at hl ⊢; exact hl, o, ho, fun e he hbd => by
        have := (regionC_spec hB ho).1 e he hbd
        exact ih e.on this (by omega)⟩
      rw [hr] at hm
      cases hm
theorem region_anyY {J : Nat → S → World → Prop} {F : Nat → Value → S → World → Prop} {Gh : S → World → S → World → Prop} {gh : Nat → Option Nat} {a0 : Act} (hB : regionC md ops a0.tmps.size = true) (hC : chainB md ops gh ops.size = true)
    (hJ : ∀ c v w w', J c v w → Below w.heap.size w w' → J c v w') (hF : ∀ i u v w w', F i u v w → Below w.heap.size w w' → F i u v w') (hG : ∀ i u v w v' w', F i u v w → Gh v w v' w' → F i u v' w')
    (hs : StepsY P md ops J F Gh gh a0 ops.toList 0)
    (hend : ∀ listed a w c v, RInvY md ops J F gh a0 listed a w c v → (∀ j, listed.getD j false = true ↔ j < ops.size) → Qx .normal a w) :
    ∀ (fuel : Nat) (listed : Array Bool) (a : Act) (w : World) (c : Nat) (v : S), RInvY md ops J F gh a0 listed a w c v → ((List.range ops.size).filter fun i => !listed.getD i false).length ≤ fuel → wpAny P md ops Qx fuel listed a w := by
  have fin : ∀ (fuel : Nat) (listed : Array Bool) (a : Act) (w : World) (c : Nat) (v : S), RInvY md ops J F gh a0 listed a w c v → (∀ j, j < ops.size → listed.getD j false = true) → wpAny P md ops Qx fuel listed a w := by
    intro fuel listed a w c v inv hdone
    have hl : ∀ j, listed.getD j false = true ↔ j < ops.size := fun j => ⟨fun h => by
      rcases Nat.lt_or_ge j ops.size with h1 | h1
      · exact h1
      · have hs' : ¬ j < listed.size := by rw [inv.lsize]; omega
        simp [hs'] at h, hdone j⟩
    have hno : ∀ i, i ∉ Region.ready md ops listed := fun i hi => by
      obtain ⟨h1, o, ho, _⟩ := mem_ready.1 hi
      have hlt := (Array.getElem?_eq_some_iff.1 ho).1
      have h2 := hdone i hlt
      have hs' : i < listed.size := by rw [inv.lsize]; exact hlt
      simp [hs'] at h1 h2
      rw [h1] at h2; cases h2
    cases fuel with
    | zero => exact ⟨List.eq_nil_iff_forall_not_mem.2 hno, hend listed a w c v inv hl⟩
    | succ fuel => exact ⟨fun _ => hend listed a w c v inv hl, fun i hi => absurd hi (hno i)⟩
  intro fuel
  induction fuel with
  | zero =>
    intro listed a w c v inv hc
    refine fin 0 listed a w c v inv (fun i hi => ?_)
    have h0 := List.eq_nil_of_length_eq_zero (Nat.le_zero.1 hc)
    have h1 := List.filter_eq_nil_iff.1 h0 i (List.mem_range.2 (by omega))
    cases h : listed.getD i false
    · rw [h] at h1; simp at h1
    · rfl
  | succ fuel ih =>
    intro listed a w c v inv hc
    by_cases hdone : ∀ j, j < ops.size → listed.getD j false = true
    · exact fin (fuel + 1) listed a w c v inv hdone
    · refine ⟨fun hr => absurd (fun j hj => inv.all hB hr j hj) hdone, fun i hi => ?_⟩
      obtain ⟨hun, o, ho, haf⟩ := mem_ready.1 hi
      have hlt : i < ops.size := (Array.getElem?_eq_some_iff.1 ho).1
      have hls : i < listed.size := by rw [inv.lsize]; exact hlt
      have hfalse : listed.getD i false = false := by simp [hls] at hun ⊢; exact hun
      obtain ⟨hb1, hb2, hb3⟩ := regionC_spec hB ho
      have hst := StepsY.at_ hs (i := i) (o := o) (by rw [Array.getElem?_toList]; exact ho)
      rw [Nat.zero_add] at hst
      have hcnt : ((List.range ops.size).filter fun j => !(listed.setIfInBounds i true).getD j false).length ≤ fuel := by
        have : ((List.range ops.size).filter fun j => !(listed.setIfInBounds i true).getD j false).length < ((List.range ops.size).filter fun j => !listed.getD j false).length := by
          refine filter_lt (i := i) (by rw [hfalse]; rfl) (by simp [hls]) (fun j _ hj => ?_) (List.mem_range.2 hlt)
          by_cases hij : i = j
          · subst hij; rw [hfalse]; rfl
          · rwa [getD_set_ne false hij] at hj
        omega
      have next : ∀ u w' c' v', J c' v' w' → (∀ i' n, i' < ops.size → gh i' = some n → ((listed.setIfInBounds i true).getD i' false = true ↔ n < c')) → (c' = 0 ∨ ∃ i, i < ops.size ∧ gh i = some (c' - 1)) → (∀ j u', F j u' v w → F j u' v' w') → F i u v' w' → wpAny P md ops Qx fuel (listed.setIfInBounds i true) (a.put o.dst u) w' := fun u w' c' v' hj' hd' htop hkeep hf => by
        refine ih _ _ _ c' v' ⟨hj', hd', htop, by simpa using inv.lsize, ?_, ?_, fun d hd => ?_, fun j oj hj hl e he hb => ?_, fun j oj d hj hjd hl => ?_⟩ hcnt
        · cases hd : o.dst <;> simp [Act.put, hd, inv.size]
        · cases hd : o.dst <;> simp [Act.put, hd, inv.defers]
        · rw [← inv.frame d fun j oj hj hjd => by
            have h1 := hd j oj hj hjd
            by_cases hij : i = j
            · subst hij; simp [hls] at h1
            · rwa [getD_set_ne false hij] at h1]
          cases hod : o.dst with
          | none => rfl
          | some d' =>
            have hne : d' ≠ d := fun h => by
              have h1 := hd i o ho (h ▸ hod)
              simp [hls] at h1
            simp only [Act.put, Array.getD_eq_getD_getElem?]
            rw [Array.getElem?_setIfInBounds_ne hne]
        · have hdep : listed.getD e.on false = true := by
            by_cases hij : i = j
            · subst hij
              have : oj = o := Option.some.inj (hj.symm.trans ho)
              subst this
              exact haf e he hb
            · rw [getD_set_ne false hij] at hl
              exact inv.closed j oj hj hl e he hb
          have hne : i ≠ e.on := fun h => by rw [← h, hfalse] at hdep; cases hdep
          rw [getD_set_ne false hne]; exact hdep
        · by_cases hij : i = j
          · subst hij
            have : oj = o := Option.some.inj (hj.symm.trans ho)
            subst this
            have hdn := hb2 d hjd
            rw [← inv.size] at hdn
            rw [hjd]
            simp only [Act.put, Array.getD_eq_getD_getElem?]
            rw [Array.getElem?_setIfInBounds_self_of_lt hdn]
            exact hf
          · rw [getD_set_ne false hij] at hl
            have h1 := hkeep j _ (inv.fact j oj d hj hjd hl)
            have e : (a.put o.dst u).tmps.getD d undef = a.tmps.getD d undef := by
              cases hod : o.dst with
              | none => rfl
              | some d' =>
                have hne : d' ≠ d := fun h => hij (hb3 j oj d hj hjd (h ▸ hod))
                simp only [Act.put, Array.getD_eq_getD_getElem?]
                rw [Array.getElem?_setIfInBounds_ne hne]
            rw [e]; exact h1
      have hfr : ∀ d, waitsB md ops i d = true → a.tmps.getD d undef = a0.tmps.getD d undef := fun d hd => inv.frame d fun j oj hj hjd => by
        cases hl : listed.getD j false with
        | false => rfl
        | true =>
          exfalso
          obtain ⟨e, he, hb, hon⟩ := waitsB_spec hd hj hjd
          have := inv.closed j oj hj hl e he hb
          rw [hon, hfalse] at this; cases this
      have hdp : ∀ j, (o.after.any fun e => Region.binds md e && e.on == j) = true → ∀ oj d, ops[j]? = some oj → oj.dst = some d → F j (a.tmps.getD d undef) v w := fun j hj oj d hoj hod => by
        obtain ⟨n, hn, hn2⟩ := Array.any_eq_true'.1 hj
        simp only [Bool.and_eq_true, beq_iff_eq] at hn2
        refine inv.fact j oj d hoj hod ?_
        rw [← hn2.2]
        exact haf n hn hn2.1
      unfold wpOp
      simp only [ho]
      unfold StepY at hst
      cases hgi : gh i with
      | none =>
        rw [hgi] at hst
        have hd' : ∀ i' n, i' < ops.size → gh i' = some n → ((listed.setIfInBounds i true).getD i' false = true ↔ n < c) := fun i' n hi' hg => by
          have hne : i ≠ i' := fun e => by rw [e, hg] at hgi; cases hgi
          rw [getD_set_ne false hne]; exact inv.done i' n hi' hg
        rcases hst a w v c inv.j (fun g og n hog hgg hany => by
          obtain ⟨y, hy, hy2⟩ := Array.any_eq_true'.1 hany
          simp only [Bool.and_eq_true, beq_iff_eq] at hy2
          rcases Nat.lt_or_ge n c with h1 | h1
          · have h2 := (inv.done g n (Array.getElem?_eq_some_iff.1 hog).1 hgg).2 h1
            have h3 := inv.closed g og hog h2 y hy hy2.1
            rw [hy2.2, hfalse] at h3; cases h3
          · exact h1) hfr hdp with ⟨hw, hdo⟩ | ⟨hw, hf⟩
        · rw [if_pos hw]
          exact .inl (hdo _ _ fun u w' h => next u w' c v (hJ c v w w' inv.j h.1) hd' inv.top (fun j u' hf => hF j u' v w w' hf h.1) h.2)
        · rw [if_neg (by rw [hw]; exact Bool.false_ne_true)]
          exact next undef w c v inv.j hd' inv.top (fun j u' hf => hf) hf
      | some n =>
        rw [hgi] at hst
        obtain ⟨c1, c2, c3⟩ := chainB_spec hC hlt hgi
        have hcn : c = n := by
          have h1 : ¬ n < c := fun h => by have := (inv.done i n hlt hgi).2 h; rw [hfalse] at this; cases this
          rcases Nat.lt_or_ge c n with h2 | h2
          · obtain ⟨j, hj, hgj, hm⟩ := c2 (by omega)
            have h3 := reachL_sub (md := md) (ops := ops) (L := fun j => listed.getD j false = true) inv.closed i _ (fun x hx => by
              obtain ⟨o', ho', e, he, hb, rfl⟩ := mem_depsL hx
              obtain rfl : o' = o := Option.some.inj (ho'.symm.trans ho)
              exact haf e he hb) j hm
            have := (inv.done j (n - 1) (by omega) hgj).1 h3
            omega
          · omega
        subst hcn
        obtain ⟨hw, hdo⟩ := hst a w v inv.j hfr hdp
        rw [if_pos hw]
        exact .inl (hdo _ _ fun u w' ⟨v', h1, h2, h3⟩ => next u w' (c + 1) v' h2 (fun i' m hi' hg => by
          by_cases hii : i = i'
          · subst hii
            rw [hgi] at hg; injection hg with hg
            simp [hls]; omega
          · rw [getD_set_ne false hii, inv.done i' m hi' hg]
            have hne : m ≠ c := fun e => hii (c3 i' hi' (by rw [hg, e])).symm
            omega) (.inr ⟨i, hlt, by rw [Nat.add_sub_cancel]; exact hgi⟩) (fun j u' hf => hG j u' v w v' w' hf h1) h3)
end
theorem wp_region_factsY {P : Program} {S : Type} {id : Nat} {ops : Array Oper} {Q : Exit → Act → World → Prop} {a0 : Act} {w : World} (hm : P.follows .mixedOrders = true) (hB : regionC .any ops a0.tmps.size = true)
    (J : Nat → S → World → Prop) (F : Nat → Value → S → World → Prop) (Gh : S → World → S → World → Prop) (gh : Nat → Option Nat) (hC : chainB .any ops gh ops.size = true) (m : Nat) (hM : countB ops gh m = true)
    (hJ : ∀ c v w w', J c v w → Below w.heap.size w w' → J c v w') (hF : ∀ i u v w w', F i u v w → Below w.heap.size w w' → F i u v w') (hG : ∀ i u v w v' w', F i u v w → Gh v w v' w' → F i u v' w')
    (v0 : S) (hJ0 : J 0 v0 w.drew)
    (hs : StepsY P .any ops J F Gh gh a0 ops.toList 0)
    (hend : ∀ (us : Nat → Value) w' v, J m v w' → (∀ (i : Nat) o d, ops[i]? = some o → o.dst = some d → F i (us d) v w') → Q .normal { tmps := fillSlots us ops.toList a0.tmps, defers := a0.defers } w') : (Code.region id ops true).wp P Q a0 w := by
  refine wp_region_any hm (region_anyY hB hC hJ hF hG hs (fun listed a w' c v inv hl => ?_) ops.size _ a0 _ 0 v0 ⟨hJ0, fun i n hi hg => ?_, .inl rfl, by simp, rfl, rfl, fun _ _ => rfl, fun j o hj hl => ?_, fun i o d hi _ hl => ?_⟩ ?_)
  · obtain rfl : c = m := by
      obtain ⟨h1, h2⟩ := countB_spec hM
      have h3 : m ≤ c := by
        rcases h2 with rfl | ⟨i, hi, hg⟩
        · omega
        · have := (inv.done i (m - 1) hi hg).1 ((hl i).2 hi)
          omega
      rcases inv.top with h4 | ⟨i, hi, hg⟩
      · omega
      · have := h1 i (c - 1) hi hg; omega
    have h := hend (fun d => a.tmps.getD d undef) w' v inv.j (fun i o d hi hd => inv.fact i o d hi hd ((hl i).2 (Array.getElem?_eq_some_iff.1 hi).1))
    have e : a = { tmps := fillSlots (fun d => a.tmps.getD d undef) ops.toList a0.tmps, defers := a0.defers } := by
      obtain ⟨tm, df⟩ := a
      have hdf : df = a0.defers := inv.defers
      have hsz : tm.size = a0.tmps.size := inv.size
      subst hdf
      congr 1
      refine Array.ext_getElem? fun d => ?_
      by_cases hlt : d < a0.tmps.size
      · by_cases hw : ∃ o ∈ ops.toList, o.dst = some d
        · rw [fillSlots_yes _ d _ _ hw hlt]
          have hd : d < tm.size := by omega
          simp [hd]
        · rw [fillSlots_no _ d _ _ (fun o ho he => hw ⟨o, ho, he⟩)]
          have h1 := inv.frame d (fun i o hi hd => by
            cases hli : listed.getD i false with
            | false => rfl
            | true =>
              exfalso
              refine hw ⟨o, List.mem_of_getElem? (i := i) ?_, hd⟩
              rw [Array.getElem?_toList]; exact hi)
          have hd : d < tm.size := by omega
          simp only [Array.getD_eq_getD_getElem?] at h1
          rw [Array.getElem?_eq_getElem hd, Array.getElem?_eq_getElem hlt] at h1 ⊢
          exact congrArg some h1
      · rw [Array.getElem?_eq_none (by omega), Array.getElem?_eq_none (by rw [fillSlots_size]; omega)]
    rw [e]
    exact h
  · simp [hi]
  · have hlt : j < ops.size := (Array.getElem?_eq_some_iff.1 hj).1
    simp [hlt] at hl
  · have hlt : i < ops.size := (Array.getElem?_eq_some_iff.1 hi).1
    simp [hlt] at hl
  · refine Nat.le_trans (List.length_filter_le _ _) ?_
    simp
end

section
section
variable {P : Program} {ops : Array Oper} {Qx : Exit → Act → World → Prop} {md : Region.Mode}
abbrev setL (L : Nat → Bool) (i : Nat) : Nat → Bool := fun j => if i = j then true else L j
abbrev setT (t : Nat → Value) (d : Option Nat) (u : Value) : Nat → Value := fun j => match d with | none => t j | some d => if d = j then u else t j
structure RInvZ (md : Region.Mode) (ops : Array Oper) (J : (Nat → Bool) → (Nat → Value) → World → Prop) (F : Nat → Value → Prop) (a0 : Act) (listed : Array Bool) (a : Act) (w : World) : Prop where
  j : J (fun i => listed.getD i false) (fun d => a.tmps.getD d undef) w
  lsize : listed.size = ops.size
  size : a.tmps.size = a0.tmps.size
  defers : a.defers = a0.defers
  frame : ∀ d, (∀ (i : Nat) o, ops[i]? = some o → o.dst = some d → listed.getD i false = false) → a.tmps.getD d undef = a0.tmps.getD d undef
  closed : ∀ (j : Nat) o, ops[j]? = some o → listed.getD j false = true → ∀ e ∈ o.after, Region.binds md e = true → listed.getD e.on false = true
  fact : ∀ (i : Nat) o d, ops[i]? = some o → o.dst = some d → listed.getD i false = true → F i (a.tmps.getD d undef)
def StepZ (P : Program) (md : Region.Mode) (ops : Array Oper) (J : (Nat → Bool) → (Nat → Value) → World → Prop) (F : Nat → Value → Prop) (a0 : Act) (i : Nat) (o : Oper) : Prop :=
  ∀ a w (L : Nat → Bool), J L (fun d => a.tmps.getD d undef) w → (∀ j, (o.after.any fun e => Region.binds md e && e.on == j) = true → L j = true) →
      (∀ (g : Nat) og, ops[g]? = some og → (og.after.any fun e => Region.binds md e && e.on == i) = true → L g = false) → (∀ d, waitsB md ops i d = true → a.tmps.getD d undef = a0.tmps.getD d undef) →
      (∀ j, (o.after.any fun e => Region.binds md e && e.on == j) = true → ∀ oj d, ops[j]? = some oj → oj.dst = some d → F j (a.tmps.getD d undef)) →
      Region.wanted o (yielded ops a.tmps) = true ∧ OpDoes P o a w fun u w' => J (setL L i) (setT (fun d => a.tmps.getD d undef) o.dst u) w' ∧ F i u
def StepsZ (P : Program) (md : Region.Mode) (ops : Array Oper) (J : (Nat → Bool) → (Nat → Value) → World → Prop) (F : Nat → Value → Prop) (a0 : Act) : List Oper → Nat → Prop
  | [], _ => True
  | o :: l, i => StepZ P md ops J F a0 i o ∧ StepsZ P md ops J F a0 l (i + 1)
theorem StepsZ.at_ {J : (Nat → Bool) → (Nat → Value) → World → Prop} {F : Nat → Value → Prop} {a0 : Act} : ∀ {l : List Oper} {k : Nat}, StepsZ P md ops J F a0 l k → ∀ {i : Nat} {o : Oper}, l[i]? = some o → StepZ P md ops J F a0 (k + i) o
  | [], _, _, i, o, h => by cases i <;> cases h
  | x :: l, k, h, 0, o, hi => by simp at hi; subst hi; exact h.1
  | x :: l, k, h, i + 1, o, hi => by
    have := StepsZ.at_ h.2 (i := i) (o := o) (by simpa using hi)
    rwa [show k + 1 + i = k + (i + 1) by omega] at this
theorem RInvZ.all {J : (Nat → Bool) → (Nat → Value) → World → Prop} {F : Nat → Value → Prop} {a0 : Act} (hB : regionC md ops a0.tmps.size = true) {listed : Array Bool} {a : Act} {w : World} (inv : RInvZ md ops J F a0 listed a w) (hr : Region.ready md ops listed = []) : ∀ i, i < ops.size → listed.getD i false = true := by
  intro i
  induction i using Nat.strongRecOn with
  | _ i ih =>
    intro hi
    cases hl : listed.getD i false with
    | true => rfl
    | false =>
      exfalso
      obtain ⟨o, ho⟩ : ∃ o, ops[i]? = some o := ⟨_, Array.getElem?_eq_getElem hi⟩
      have hm : i ∈ Region.ready md ops listed := mem_ready.2 ⟨by
        have hs : i < listed.size := by rw [inv.lsize]; exact hi
        simp [hs] at hl ⊢; exact hl, o, ho, fun e he hbd => by
        have := (regionC_spec hB ho).1 e he hbd
        exact ih e.on this (by omega)⟩
      rw [hr] at hm
      cases hm
theorem region_anyZ {J : (Nat → Bool) → (Nat → Value) → World → Prop} {F : Nat → Value → Prop} {a0 : Act} (hB : regionC md ops a0.tmps.size = true)
    (hs : StepsZ P md ops J F a0 ops.toList 0)
    (hend : ∀ listed a w, RInvZ md ops J F a0 listed a w → (∀ j, listed.getD j false = true ↔ j < ops.size) → Qx .normal a w) :
    ∀ (fuel : Nat) (listed : Array Bool) (a : Act) (w : World), RInvZ md ops J F a0 listed a w → ((List.range ops.size).filter fun i => !listed.getD i false).length ≤ fuel → wpAny P md ops Qx fuel listed a w := by
  have fin : ∀ (fuel : Nat) (listed : Array Bool) (a : Act) (w : World), RInvZ md ops J F a0 listed a w → (∀ j, j < ops.size → listed.getD j false = true) → wpAny P md ops Qx fuel listed a w := by
    intro fuel listed a w inv hdone
    have hl : ∀ j, listed.getD j false = true ↔ j < ops.size := fun j => ⟨fun h => by
      rcases Nat.lt_or_ge j ops.size with h1 | h1
      · exact h1
      · have hs' : ¬ j < listed.size := by rw [inv.lsize]; omega
        simp [hs'] at h, hdone j⟩
    have hno : ∀ i, i ∉ Region.ready md ops listed := fun i hi => by
      obtain ⟨h1, o, ho, _⟩ := mem_ready.1 hi
      have hlt := (Array.getElem?_eq_some_iff.1 ho).1
      have h2 := hdone i hlt
      have hs' : i < listed.size := by rw [inv.lsize]; exact hlt
      simp [hs'] at h1 h2
      rw [h1] at h2; cases h2
    cases fuel with
    | zero => exact ⟨List.eq_nil_iff_forall_not_mem.2 hno, hend listed a w inv hl⟩
    | succ fuel => exact ⟨fun _ => hend listed a w inv hl, fun i hi => absurd hi (hno i)⟩
  intro fuel
  induction fuel with
  | zero =>
    intro listed a w inv hc
    refine fin 0 listed a w inv (fun i hi => ?_)
    have h0 := List.eq_nil_of_length_eq_zero (Nat.le_zero.1 hc)
    have h1 := List.filter_eq_nil_iff.1 h0 i (List.mem_range.2 (by omega))
    cases h : listed.getD i false
    · rw [h] at h1; simp at h1
    · rfl
  | succ fuel ih =>
    intro listed a w inv hc
    by_cases hdone : ∀ j, j < ops.size → listed.getD j false = true
    · exact fin (fuel + 1) listed a w inv hdone
    · refine ⟨fun hr => absurd (fun j hj => inv.all hB hr j hj) hdone, fun i hi => ?_⟩
      obtain ⟨hun, o, ho, haf⟩ := mem_ready.1 hi
      have hlt : i < ops.size := (Array.getElem?_eq_some_iff.1 ho).1
      have hls : i < listed.size := by rw [inv.lsize]; exact hlt
      have hfalse : listed.getD i false = false := by simp [hls] at hun ⊢; exact hun
      obtain ⟨hb1, hb2, hb3⟩ := regionC_spec hB ho
      have hst := StepsZ.at_ hs (i := i) (o := o) (by rw [Array.getElem?_toList]; exact ho)
      rw [Nat.zero_add] at hst
      have hcnt : ((List.range ops.size).filter fun j => !(listed.setIfInBounds i true).getD j false).length ≤ fuel := by
        have : ((List.range ops.size).filter fun j => !(listed.setIfInBounds i true).getD j false).length < ((List.range ops.size).filter fun j => !listed.getD j false).length := by
          refine filter_lt (i := i) (by rw [hfalse]; rfl) (by simp [hls]) (fun j _ hj => ?_) (List.mem_range.2 hlt)
          by_cases hij : i = j
          · subst hij; rw [hfalse]; rfl
          · rwa [getD_set_ne false hij] at hj
        omega
      have eL : (fun j => (listed.setIfInBounds i true).getD j false) = setL (fun j => listed.getD j false) i := by
        funext j
        by_cases hij : i = j
        · subst hij; simp [setL, hls]
        · rw [getD_set_ne false hij]; simp [setL, hij]
      have eT : ∀ u, (fun d => (a.put o.dst u).tmps.getD d undef) = setT (fun d => a.tmps.getD d undef) o.dst u := fun u => by
        funext d
        cases hod : o.dst with
        | none => rfl
        | some d' =>
          by_cases hij : d' = d
          · subst hij
            have hdn := hb2 d' hod
            rw [← inv.size] at hdn
            simp only [Act.put, setT, if_true, Array.getD_eq_getD_getElem?]
            rw [Array.getElem?_setIfInBounds_self_of_lt hdn]; rfl
          · simp only [Act.put, setT, if_neg hij, Array.getD_eq_getD_getElem?]
            rw [Array.getElem?_setIfInBounds_ne hij]
      have next : ∀ u w', J (setL (fun j => listed.getD j false) i) (setT (fun d => a.tmps.getD d undef) o.dst u) w' → F i u → wpAny P md ops Qx fuel (listed.setIfInBounds i true) (a.put o.dst u) w' := fun u w' hj' hf => by
        refine ih _ _ _ ⟨by rw [eL, eT]; exact hj', by simpa using inv.lsize, ?_, ?_, fun d hd => ?_, fun j oj hj hl e he hb => ?_, fun j oj d hj hjd hl => ?_⟩ hcnt
        · cases hd : o.dst <;> simp [Act.put, hd, inv.size]
        · cases hd : o.dst <;> simp [Act.put, hd, inv.defers]
        · rw [← inv.frame d fun j oj hj hjd => by
            have h1 := hd j oj hj hjd
            by_cases hij : i = j
            · subst hij; simp [hls] at h1
            · rwa [getD_set_ne false hij] at h1]
          cases hod : o.dst with
          | none => rfl
          | some d' =>
            have hne : d' ≠ d := fun h => by
              have h1 := hd i o ho (h ▸ hod)
              simp [hls] at h1
            simp only [Act.put, Array.getD_eq_getD_getElem?]
            rw [Array.getElem?_setIfInBounds_ne hne]
        · have hdep : listed.getD e.on false = true := by
            by_cases hij : i = j
            · subst hij
              have : oj = o := Option.some.inj (hj.symm.trans ho)
              subst this
              exact haf e he hb
            · rw [getD_set_ne false hij] at hl
              exact inv.closed j oj hj hl e he hb
          have hne : i ≠ e.on := fun h => by rw [← h, hfalse] at hdep; cases hdep
          rw [getD_set_ne false hne]; exact hdep
        · by_cases hij : i = j
          · subst hij
            have : oj = o := Option.some.inj (hj.symm.trans ho)
            subst this
            have hdn := hb2 d hjd
            rw [← inv.size] at hdn
            rw [hjd]
            simp only [Act.put, Array.getD_eq_getD_getElem?]
            rw [Array.getElem?_setIfInBounds_self_of_lt hdn]
            exact hf
          · rw [getD_set_ne false hij] at hl
            have h1 := inv.fact j oj d hj hjd hl
            have e : (a.put o.dst u).tmps.getD d undef = a.tmps.getD d undef := by
              cases hod : o.dst with
              | none => rfl
              | some d' =>
                have hne : d' ≠ d := fun h => hij (hb3 j oj d hj hjd (h ▸ hod))
                simp only [Act.put, Array.getD_eq_getD_getElem?]
                rw [Array.getElem?_setIfInBounds_ne hne]
            rw [e]; exact h1
      have hfr : ∀ d, waitsB md ops i d = true → a.tmps.getD d undef = a0.tmps.getD d undef := fun d hd => inv.frame d fun j oj hj hjd => by
        cases hl : listed.getD j false with
        | false => rfl
        | true =>
          exfalso
          obtain ⟨e, he, hb, hon⟩ := waitsB_spec hd hj hjd
          have := inv.closed j oj hj hl e he hb
          rw [hon, hfalse] at this; cases this
      have hdl : ∀ j, (o.after.any fun e => Region.binds md e && e.on == j) = true → listed.getD j false = true := fun j hj => by
        obtain ⟨n, hn, hn2⟩ := Array.any_eq_true'.1 hj
        simp only [Bool.and_eq_true, beq_iff_eq] at hn2
        rw [← hn2.2]
        exact haf n hn hn2.1
      have hdp : ∀ j, (o.after.any fun e => Region.binds md e && e.on == j) = true → ∀ oj d, ops[j]? = some oj → oj.dst = some d → F j (a.tmps.getD d undef) := fun j hj oj d hoj hod => inv.fact j oj d hoj hod (hdl j hj)
      have hgl : ∀ (g : Nat) og, ops[g]? = some og → (og.after.any fun e => Region.binds md e && e.on == i) = true → listed.getD g false = false := fun g og hog hany => by
        obtain ⟨y, hy, hy2⟩ := Array.any_eq_true'.1 hany
        simp only [Bool.and_eq_true, beq_iff_eq] at hy2
        cases h2 : listed.getD g false with
        | false => rfl
        | true =>
          exfalso
          have h3 := inv.closed g og hog h2 y hy hy2.1
          rw [hy2.2, hfalse] at h3; cases h3
      obtain ⟨hw, hdo⟩ := hst a w _ inv.j hdl hgl hfr hdp
      unfold wpOp
      simp only [ho]
      rw [if_pos hw]
      exact .inl (hdo _ _ fun u w' h => next u w' h.1 h.2)
end
theorem wp_region_factsZ {P : Program} {id : Nat} {ops : Array Oper} {Q : Exit → Act → World → Prop} {a0 : Act} {w : World} (hm : P.follows .mixedOrders = true) (hB : regionC .any ops a0.tmps.size = true)
    (J : (Nat → Bool) → (Nat → Value) → World → Prop) (F : Nat → Value → Prop) (hJ0 : J (fun _ => false) (fun d => a0.tmps.getD d undef) w.drew)
    (hs : StepsZ P .any ops J F a0 ops.toList 0)
    (hend : ∀ (t : Nat → Value) (L : Nat → Bool) w', (∀ i, i < ops.size → L i = true) → J L t w' → (∀ d, a0.tmps.size ≤ d → True) → (∀ (i : Nat) o d, ops[i]? = some o → o.dst = some d → F i (t d)) → Q .normal { tmps := fillSlots t ops.toList a0.tmps, defers := a0.defers } w') : (Code.region id ops true).wp P Q a0 w := by
  refine wp_region_any hm (region_anyZ hB hs (fun listed a w' inv hl => ?_) ops.size _ a0 _ ⟨?_, by simp, rfl, rfl, fun _ _ => rfl, fun j o hj hl => ?_, fun i o d hi _ hl => ?_⟩ ?_)
  · have h := hend (fun d => a.tmps.getD d undef) _ w' (fun i hi => (hl i).2 hi) inv.j (fun _ _ => trivial) (fun i o d hi hd => inv.fact i o d hi hd ((hl i).2 (Array.getElem?_eq_some_iff.1 hi).1))
    have e : a = { tmps := fillSlots (fun d => a.tmps.getD d undef) ops.toList a0.tmps, defers := a0.defers } := by
      obtain ⟨tm, df⟩ := a
      have hdf : df = a0.defers := inv.defers
      have hsz : tm.size = a0.tmps.size := inv.size
      subst hdf
      congr 1
      refine Array.ext_getElem? fun d => ?_
      by_cases hlt : d < a0.tmps.size
      · by_cases hw : ∃ o ∈ ops.toList, o.dst = some d
        · rw [fillSlots_yes _ d _ _ hw hlt]
          have hd : d < tm.size := by omega
          simp [hd]
        · rw [fillSlots_no _ d _ _ (fun o ho he => hw ⟨o, ho, he⟩)]
          have h1 := inv.frame d (fun i o hi hd => by
            cases hli : listed.getD i false with
            | false => rfl
            | true =>
              exfalso
              refine hw ⟨o, List.mem_of_getElem? (i := i) ?_, hd⟩
              rw [Array.getElem?_toList]; exact hi)
          have hd : d < tm.size := by omega
          simp only [Array.getD_eq_getD_getElem?] at h1
          rw [Array.getElem?_eq_getElem hd, Array.getElem?_eq_getElem hlt] at h1 ⊢
          exact congrArg some h1
      · rw [Array.getElem?_eq_none (by omega), Array.getElem?_eq_none (by rw [fillSlots_size]; omega)]
    rw [e]
    exact h
  · have : (fun i => (Array.replicate ops.size false).getD i false) = fun _ => false := by
      funext i
      simp only [Array.getD_eq_getD_getElem?, Array.getElem?_replicate]
      split <;> rfl
    rw [this]
    exact hJ0
  · have hlt : j < ops.size := (Array.getElem?_eq_some_iff.1 hj).1
    simp [hlt] at hl
  · have hlt : i < ops.size := (Array.getElem?_eq_some_iff.1 hi).1
    simp [hlt] at hl
  · refine Nat.le_trans (List.length_filter_le _ _) ?_
    simp
end
end Go.Proofs.Ytffenfhbiapefaa
