/- The walks through Find and what it calls. -/
import Derived.Test.YtffenfhbiapefaaNor
import Derived.Deep.Upon
namespace Go.Proofs.Ytffenfhbiapefaa
set_option linter.unusedVariables false
set_option linter.unusedSimpArgs false
open Go.RowKit

section
theorem eqS_dec (a b : ByteArray) : (a.toList == b.toList) = decide (a = b) := by
  rw [Bool.eq_iff_iff, beq_iff_eq, decide_eq_true_iff]
  exact ⟨toList_inj, fun h => by rw [h]⟩
set_option maxHeartbeats 16000000 in
set_option maxRecDepth 100000 in
theorem find1_ok (n : Nd) (A : Option Addr) (pn pc : Nat) (g : Nat) (name : ByteArray) (w : World) (hc : w.cell? ⟨g, 0, none⟩ = some (.string name)) (hg : g < w.heap.size) :
    Calls Try.prog 37 #[.agg (ndC n A pn pc), .pointer (some ⟨g, 0, none⟩)] w fun e w' => e = .returned (.bool (decide (n.name = name))) ∧ Q w w' := by
  have hdec := eqS_dec n.name name
  go_enter Try.func37, Try.ntmps37
  go_wp2_with (first
    | ((with_reducible refine gate 2 rfl ?_); go_loud (refine wpList_box_row rfl 33 (.tmp 0) rfl _ rfl 39 _ (nd_agg n A pn pc) ?_; intro w1 hr1 hx1; have HB := Lib.hid (NodeAt.of_row hr1); have HQ1 := Lib.hid (hx1.q (Q.refl _)); obtain ⟨c0, c1, c2, c3, c4, c5, c6⟩ := nd_cells HB.out; have hc1 := (HQ1.out.cell (p := ⟨g, 0, none⟩) hg).trans hc; clear hr1 hx1 c1 c2 c3 c4 c5 c6)))
  go_ret
  exact ⟨rfl, HQ1.out⟩
/-- The first of a row that has the name. -/
def firstAt (zs : List NdIn) (name : ByteArray) : Nat := (zs.takeWhile fun z => !decide (z.n.name = name)).length
set_option maxHeartbeats 16000000 in
set_option maxRecDepth 100000 in
theorem indexFunc_ok (A0 : Option Addr) (nn nc : Nat) (zs : List NdIn) (g : Nat) (name : ByteArray) (w : World) (hz : zs.length = nn) (hn : nn ≤ 9223372036854775807) (h : NodesAt w A0 zs) (hc : w.cell? ⟨g, 0, none⟩ = some (.string name)) (hg : g < w.heap.size) :
    Calls Try.prog 36 #[.slice A0 nn nc, .func (.func 37) #[] #[.pointer (some ⟨g, 0, none⟩)]] w fun e w' => e = .returned (.int .i64 (if firstAt zs name < nn then (firstAt zs name : Int) else -1)) ∧ Q w w' := by
  have HZ := Lib.hid hz
  have HN := Lib.hid h
  have HC := Lib.hid (And.intro hc hg)
  obtain ⟨r, hr⟩ : ∃ r : Int, r = if firstAt zs name < nn then (firstAt zs name : Int) else -1 := ⟨_, rfl⟩
  rw [← hr]
  have HR := Lib.hid hr
  clear hz h hc hg hr
  go_enter Try.func36, Try.ntmps36
  go_wp2_with fail
  go_loopw [5, 8] (fun _ i wr => ∃ k : Nat, k ≤ nn ∧ i = .int .i64 k ∧ Hid ((∀ j (h : j < k) (h2 : j < zs.length), (!decide (zs[j].n.name = name)) = true) ∧ Q w wr)) (fun _ i _ => nn - (intOf i).toNat)
  case atStart => exact ⟨0, by omega, rfl, fun i h => absurd h (by omega), Q.refl _⟩
  case round =>
    obtain ⟨k, hk, rfl, HK⟩ := hrel
    obtain ⟨wq, hwq⟩ : ∃ w, w = wr := ⟨_, rfl⟩
    subst hwq
    by_cases hlt : k < nn
    · have hkz : k < zs.length := by rw [HZ.out]; exact hlt
      obtain ⟨b, o, e1, hb, hat⟩ := (HN.out.q HK.out.2).at_ k hkz
      have HAT := Lib.hid hat
      have HC1 := Lib.hid (find1_ok zs[k].n zs[k].A zs[k].pn zs[k].pc g name wq ((HK.out.2.cell (p := ⟨g, 0, none⟩) HC.out.2).trans HC.out.1) (Nat.lt_of_lt_of_le HC.out.2 HK.out.2.size))
      obtain ⟨fb, hfb⟩ : ∃ fb, fb = decide (zs[k].n.name = name) := ⟨_, rfl⟩
      have HFB : Hid (∃ h : k < zs.length, decide (zs[k].n.name = name) = fb) := Lib.hid ⟨hkz, hfb.symm⟩
      rw [← hfb] at HC1
      clear hfb hat
      generalize zs[k] = z at *
      obtain ⟨n, A, pn, pc⟩ := z
      subst e1
      cases fb
      · go_wp2_with (first
          | ((with_reducible refine gate 15 rfl ?_); go_loud (refine wpList_val rfl (load_node (.tmp 14) rfl rfl HAT.out) ?_))
          | (go_at_call 37; go_loud ((with_reducible refine (HC1.out).mono ?_); rintro e7 w7 ⟨rfl, hq7⟩; have HQ7 := Lib.hid hq7; clear hq7)))
        go_roundw
        case rel =>
          refine ⟨k + 1, by omega, by go_num, fun i hi h2 => ?_, HK.out.2.step HQ7.out⟩
          rcases Nat.lt_or_ge i k with h | h
          · exact HK.out.1 i h h2
          · obtain rfl : i = k := by omega
            obtain ⟨h1, h3⟩ := HFB.out
            rw [h3]; rfl
        case measure => simp [intOf]; omega
      · have HE : Hid (firstAt zs name = k) := Lib.hid (by
          obtain ⟨h1, h2⟩ := HFB.out
          exact takeWhile_at _ zs k h1 (fun i hi => HK.out.1 i hi (by omega)) (by rw [h2]; rfl))
        go_wp2_with (first
          | ((with_reducible refine gate 15 rfl ?_); go_loud (refine wpList_val rfl (load_node (.tmp 14) rfl rfl HAT.out) ?_))
          | (go_at_call 37; go_loud ((with_reducible refine (HC1.out).mono ?_); rintro e7 w7 ⟨rfl, hq7⟩; have HQ7 := Lib.hid hq7; clear hq7)))
        go_ret
        exact ⟨by rw [HR.out, HE.out, if_pos hlt]; rfl, HK.out.2.step HQ7.out⟩
    · obtain rfl : nn = k := by omega
      have HE : Hid (firstAt zs name = nn) := Lib.hid (by rw [← HZ.out]; exact takeWhile_all _ zs fun i hi => HK.out.1 i (by rw [HZ.out] at hi; exact hi) hi)
      go_wp2_with fail
      go_ret
      exact ⟨by rw [HR.out, HE.out, if_neg (Nat.lt_irrefl _)]; rfl, HK.out.2⟩
theorem nd_eq {n : Nd} {A : Option Addr} {pn pc : Nat} {v : Value} (h : AggIs v 39 (ndF n A pn pc)) : v = .agg (ndC n A pn pc) := by
  obtain ⟨cs, rfl, hs, hg⟩ := h
  congr 1
  refine Array.ext (by rw [hs, ndC_size]) fun i h1 h2 => ?_
  have h3 := hg i (by omega)
  have h4 := ndC_get n A pn pc i (by rw [← ndC_size n A pn pc]; exact h2)
  rw [Array.getElem?_eq_getElem h1] at h3
  have h5 : (ndC n A pn pc)[i]? = some (ndF n A pn pc i) := h4
  rw [Array.getElem?_eq_getElem h2] at h5
  exact Option.some.inj (h3.trans h5.symm)
theorem run_build_zero {op : Oper} {a : Act} (ho : op.op = .build 33 #[]) (w : World) : (execOp a.eval op).run Try.prog w = .ok (.value (.agg (ndC noNd none 0 0))) w := by
  have hr : (Instr.build 33 #[]).run Try.prog w = .ok (.agg (ndC noNd none 0 0)) w := by kernel_rfl
  unfold execOp
  simp only [ho, List.map_toArray, List.map_nil, Sem.run_bind, hr, Result.andThen_ok, Sem.run_pure]
/-- What Find leaves. -/
def FindOut (zs : List NdIn) (name : ByteArray) (e : Ending) : Prop :=
  (∃ h : firstAt zs name < zs.length, e = .returned (.tuple #[.agg (ndC (zs[firstAt zs name]).n (zs[firstAt zs name]).A (zs[firstAt zs name]).pn (zs[firstAt zs name]).pc), .bool true])) ∨
  (zs.length ≤ firstAt zs name ∧ e = .returned (.tuple #[.agg (ndC noNd none 0 0), .bool false]))
set_option maxHeartbeats 16000000 in
set_option maxRecDepth 100000 in
theorem find_ok (A0 : Option Addr) (nn nc : Nat) (zs : List NdIn) (name : ByteArray) (w : World) (hz : zs.length = nn) (hn : nn ≤ 9223372036854775807) (h : NodesAt w A0 zs) :
    Calls Try.prog 22 #[.string name, .slice A0 nn nc] w fun e w' => FindOut zs name e ∧ Q w w' := by
  have HZ := Lib.hid hz
  have HN := Lib.hid h
  clear hz h
  obtain ⟨k, hk⟩ : ∃ k, k = firstAt zs name := ⟨_, rfl⟩
  have HK := Lib.hid hk
  have HIX : Hid (∀ (g : Nat) w', Q w w' → w'.cell? ⟨g, 0, none⟩ = some (.string name) → g < w'.heap.size → Calls Try.prog 36 #[.slice A0 nn nc, .func (.func 37) #[] #[.pointer (some ⟨g, 0, none⟩)]] w' fun e w'' => e = .returned (.int .i64 (if k < nn then (k : Int) else -1)) ∧ Q w' w'') :=
    Lib.hid fun g w' hq hc hg => by rw [HK.out]; exact indexFunc_ok A0 nn nc zs g name w' HZ.out hn (HN.out.q hq) hc hg
  clear hk
  by_cases hlt : k < nn
  · have hkz : k < zs.length := by rw [HZ.out]; exact hlt
    obtain ⟨b, o, e1, hb, hat⟩ := HN.out.at_ k hkz
    have HPO : Hid (FindOut zs name (.returned (.tuple #[.agg (ndC zs[k].n zs[k].A zs[k].pn zs[k].pc), .bool true]))) := Lib.hid (.inl ⟨by rw [← HK.out]; exact hkz, by simp only [← HK.out]⟩)
    rw [if_pos hlt] at HIX
    generalize zs[k] = z at *
    obtain ⟨n, A, pn, pc⟩ := z
    have HAT := Lib.hid hat
    have HB := Lib.hid hb
    clear hat hb HK hkz
    subst e1
    go_enter Try.func22, Try.ntmps22
    go_wp2_with (first
      | ((with_reducible refine gate 4 rfl ?_); go_loud (refine wpList_alloc_row rfl 33 rfl _ (zeroN _) 39 _ (ndC_size _ _ _ _) (ndC_get _ _ _ _) ?_; intro w1 hr1 hx1; have H1 := Lib.hid (And.intro hr1 (hx1.q ((Q.refl w).alloc _))); have hcn : w1.cell? ⟨w.heap.size, 0, none⟩ = some (.string name) := (hx1.q (Q.refl _)).cell (p := ⟨w.heap.size, 0, none⟩) (by simp) |>.trans (one_cell w (.string name) 9 0 _ rfl); have HI := Lib.hid (HIX.out w.heap.size w1 H1.out.2 hcn (Nat.lt_of_lt_of_le (by simp) (hx1.q (Q.refl _)).size)); clear hr1 hx1))
      | (go_at_call 36; go_loud ((with_reducible refine (HI.out).mono ?_); rintro e7 w7 ⟨rfl, hq7⟩; have HQ7 := Lib.hid (H1.out.2.step hq7); have HR7 : Hid (w7.rowIs (w.heap.size + 1) 33 39 (ndF noNd none 0 0)) := Lib.hid (by have := row_q hq7 H1.out.1; simpa using this); have HAT7 := Lib.hid (HAT.out.q HB.out HQ7.out); clear hq7))
      | ((with_reducible refine gate 16 rfl ?_); go_loud (refine wpList_val rfl (load_node (.tmp 15) rfl rfl HAT7.out) ?_))
      | ((with_reducible refine gate0 rfl ?_); go_loud (refine wpList_store_all rfl 33 (.tmp 4) (.tmp 16) rfl (w.heap.size + 1) rfl _ rfl 39 sizeN _ (nd_agg n A pn pc) (fun i _ => ndF_one _ _ _ _ i) 33 _ HR7.out ?_; intro w8 hr8 hp8; have H8 := Lib.hid (And.intro hr8 (hp8.q HQ7.out (Nat.le_succ _))); clear hr8 hp8)))
    refine ret_cell_tmp rfl (w.heap.size + 1) rfl _ Try.underlying33 rfl 39 sizeN (ndF n A pn pc) (row_cells H8.out.1) rfl (fun v hv => ⟨?_, H8.out.2⟩)
    rw [nd_eq hv]
    exact HPO.out
  · have HPO : Hid (FindOut zs name (.returned (.tuple #[.agg (ndC noNd none 0 0), .bool false]))) := Lib.hid (.inr ⟨by rw [← HK.out, HZ.out]; omega, rfl⟩)
    rw [if_neg hlt] at HIX
    clear HK
    go_enter Try.func22, Try.ntmps22
    go_wp2_with (first
      | ((with_reducible refine gate 4 rfl ?_); go_loud (refine wpList_alloc_row rfl 33 rfl _ (zeroN _) 39 _ (ndC_size _ _ _ _) (ndC_get _ _ _ _) ?_; intro w1 hr1 hx1; have H1 := Lib.hid (And.intro hr1 (hx1.q ((Q.refl w).alloc _))); have hcn : w1.cell? ⟨w.heap.size, 0, none⟩ = some (.string name) := (hx1.q (Q.refl _)).cell (p := ⟨w.heap.size, 0, none⟩) (by simp) |>.trans (one_cell w (.string name) 9 0 _ rfl); have HI := Lib.hid (HIX.out w.heap.size w1 H1.out.2 hcn (Nat.lt_of_lt_of_le (by simp) (hx1.q (Q.refl _)).size)); clear hr1 hx1))
      | (go_at_call 36; go_loud ((with_reducible refine (HI.out).mono ?_); rintro e7 w7 ⟨rfl, hq7⟩; have HQ7 := Lib.hid (H1.out.2.step hq7); have HR7 : Hid (w7.rowIs (w.heap.size + 1) 33 39 (ndF noNd none 0 0)) := Lib.hid (by have := row_q hq7 H1.out.1; simpa using this); clear hq7))
      | ((with_reducible refine gate 12 rfl ?_); go_loud (refine wpList_val rfl (run_build_zero rfl _) ?_))
      | ((with_reducible refine gate0 rfl ?_); go_loud (refine wpList_store_all rfl 33 (.tmp 4) (.tmp 12) rfl (w.heap.size + 1) rfl _ rfl 39 sizeN _ (nd_agg noNd none 0 0) (fun i _ => ndF_one _ _ _ _ i) 33 _ HR7.out ?_; intro w8 hr8 hp8; have H8 := Lib.hid (And.intro hr8 (hp8.q HQ7.out (Nat.le_succ _))); clear hr8 hp8)))
    refine ret_cell_tmp rfl (w.heap.size + 1) rfl _ Try.underlying33 rfl 39 sizeN (ndF noNd none 0 0) (row_cells H8.out.1) rfl (fun v hv => ⟨?_, H8.out.2⟩)
    rw [nd_eq hv]
    exact HPO.out
end

section
theorem run_append_nilc {P : Program} {w : World} (base : Nat) (t ty e : TypeId) (i : TypeInfo) (size : Nat) (ht : P.underlying t = some (.slice e)) (hi : P.info? e = some i)
    (v : Value) (n c : Nat) (xs : List Value) (hown : w.ownsRow base e size v n xs) :
    (Builtin.append_ #[t, t] ty #[v, .slice none 0 c]).run P w = .ok v w := by
  rcases hown.2 with ⟨rfl, rfl⟩ | ⟨g, cap, cur, rfl, _, _, hnc, _⟩
  · simp [Builtin.append_, run_underlying ht, sizeOf, typeInfo, hi, Builtin.lenOf, Builtin.firstCells]
  · simp [Builtin.append_, run_underlying ht, sizeOf, typeInfo, hi, Builtin.lenOf, Builtin.firstCells, hnc, storeCells]
theorem wpList_append_any {P : Program} {w : World} {ops : Array Oper} {rest : List Oper} {o : Oper} {a : Act} {K : Exit → Act → World → Prop} (hgd : o.guard = none) (s x : Operand) (t : TypeId)
    (ho : o.op = .call { callee := .builtin .append, args := #[s, x], argTypes := #[t, t] })
    (base : Nat) (e : TypeId) (i : TypeInfo) (z : Value) (size bytes : Nat) (ht : P.underlying t = some (.slice e)) (hi : P.info? e = some i) (hz : i.zero = some z)
    (hsize : i.size = size) (hby : i.bytes = bytes) (hzs : z.cells.size = size) (hpos : 0 < size)
    (v : Value) (n : Nat) (xs : List Value) (hs : a.eval s = v) (hown : w.ownsRow base e size v n xs)
    (ok : Nat → Prop) (A : Option Addr) (m c : Nat) (news : List Value) (hx : a.eval x = .slice A m c) (hl : news.length = m * size) (hr : SeesP w ok A news) (h1 : ∀ u ∈ news, u.oneCell' = true)
    (h63 : n + m ≤ maxLen) (hbytes : (n + m) * bytes ≤ 140737488355328) (hbase : base ≤ w.heap.size)
    (h : ∀ v' w', w'.ownsRow base e size v' (n + m) (xs ++ news) → Grew w w' v v' → wpList P ops K rest (a.put o.dst v') w') : wpList P ops K (o :: rest) a w := by
  have hrun : ∃ v' w', (Builtin.append_ #[t, t] o.type #[v, .slice A m c]).run P w = .ok v' w' ∧ w'.ownsRow base e size v' (n + m) (xs ++ news) ∧ Grew w w' v v' := by
    cases A with
    | none =>
      have hn : news = [] := by
        rcases Classical.em (news = []) with h | h
        · exact h
        · obtain ⟨b, o', e, _⟩ := hr h; cases e
      subst hn
      have hm : m = 0 := by
        rcases Nat.eq_zero_or_pos m with h | h
        · exact h
        · have := Nat.mul_pos h hpos
          rw [← hl] at this
          simp at this
      subst hm
      exact ⟨v, w, run_append_nilc (P := P) base t o.type e i size ht hi v n c xs hown, by simpa using hown, rfl, rfl, rfl, Nat.le_refl _, fun _ _ _ => rfl, .inl rfl⟩
    | some ad => exact run_append_any (P := P) w t o.type base e i z size bytes ht hi hz hsize hby hzs hpos v n xs hown ok (some ad) m c news (fun h => by cases h) hl hr h1 h63 hbytes hbase
  obtain ⟨v', w', hr', h2, h3⟩ := hrun
  refine wpList_val hgd (v := v') (w' := w') ?_ (h v' w' h2 h3)
  unfold execOp
  simp only [ho, resolve, invoke, builtin, Sem.run_bind, Sem.run_pure, Result.andThen_ok, List.map_toArray, List.map_cons, List.map_nil, hs, hx, hr']
def idsL (ids : List (List Nat)) : List Value := ids.flatMap gL
def partsN (zs : List NdIn) : List (List Nat) := zs.flatMap fun z => if z.n.kind = 0 then z.n.ids else []
def treesN (zs : List NdIn) : List (List Nat) := zs.flatMap fun z => if z.n.kind = 1 then [z.n.tree] else []
/-- The two rows that Ids makes. -/
structure IdsJ (w0 w : World) (p t : Value) (P T : List (List Nat)) : Prop where
  po : w.ownsRow w0.heap.size 24 32 p P.length (idsL P)
  to_ : w.ownsRow w0.heap.size 24 32 t T.length (idsL T)
  far : Far p t
  q : Q w0 w
theorem IdsJ.begin_ (w0 : World) : IdsJ w0 w0 (.slice none 0 0) (.slice none 0 0) [] [] := ⟨World.ownsRow_nil _ _ _ _, World.ownsRow_nil _ _ _ _, Far.nil _, Q.refl _⟩
theorem IdsJ.step {w0 w w' : World} {p t : Value} {P T : List (List Nat)} (h : IdsJ w0 w p t P T) (hq : Q w w') : IdsJ w0 w' p t P T := ⟨own_q h.po hq, own_q h.to_ hq, h.far, h.q.step hq⟩
theorem IdsJ.parts {w0 w w' : World} {p t p' : Value} {P T L : List (List Nat)} (h : IdsJ w0 w p t P T) (hg : Grew w w' p p') (hown : w'.ownsRow w0.heap.size 24 32 p' (P.length + L.length) (idsL P ++ idsL L)) : IdsJ w0 w' p' t (P ++ L) T :=
  ⟨by simpa [idsL] using hown, hg.keeps h.far h.to_, hg.far h.far h.to_, hg.q h.q h.po⟩
theorem IdsJ.trees {w0 w w' : World} {p t t' : Value} {P T : List (List Nat)} {x : List Nat} (h : IdsJ w0 w p t P T) (hg : Grew w w' t t') (hown : w'.ownsRow w0.heap.size 24 32 t' (T.length + 1) (idsL T ++ gL x)) : IdsJ w0 w' p t' P (T ++ [x]) :=
  ⟨hg.keeps h.far.symm h.po, by simpa [idsL] using hown, (hg.far h.far.symm h.po).symm, hg.q h.q h.to_⟩
theorem partsN_len {zs : List NdIn} (h : ∀ z ∈ zs, z.n.ids.length ≤ 300) : (partsN zs).length ≤ 300 * zs.length := by
  induction zs with
  | nil => simp [partsN]
  | cons z zs ih =>
    have h1 := ih fun y hy => h y (List.mem_cons_of_mem _ hy)
    have h2 := h z (by simp)
    unfold partsN at h1 ⊢
    rw [List.flatMap_cons, List.length_append, List.length_cons]
    split
    · omega
    · rw [List.length_nil]; omega
theorem treesN_len (zs : List NdIn) : (treesN zs).length ≤ zs.length := by
  induction zs with
  | nil => simp [treesN]
  | cons z zs ih =>
    unfold treesN at ih ⊢
    rw [List.flatMap_cons, List.length_append, List.length_cons]
    split
    · rw [List.length_singleton]; omega
    · rw [List.length_nil]; omega
theorem partsN_take {zs : List NdIn} {k : Nat} (hk : k < zs.length) : partsN (zs.take (k + 1)) = partsN (zs.take k) ++ if zs[k].n.kind = 0 then zs[k].n.ids else [] := by
  unfold partsN
  rw [List.take_succ_eq_append_getElem hk, List.flatMap_append, List.flatMap_cons, List.flatMap_nil, List.append_nil]
theorem treesN_take {zs : List NdIn} {k : Nat} (hk : k < zs.length) : treesN (zs.take (k + 1)) = treesN (zs.take k) ++ if zs[k].n.kind = 1 then [zs[k].n.tree] else [] := by
  unfold treesN
  rw [List.take_succ_eq_append_getElem hk, List.flatMap_append, List.flatMap_cons, List.flatMap_nil, List.append_nil]
theorem idsL_one {ids : List (List Nat)} : ∀ u ∈ idsL ids, u.oneCell' = true := fun u hu => by
  obtain ⟨x, _, h⟩ := List.mem_flatMap.1 hu
  exact gL_one x u h
set_option maxHeartbeats 16000000 in
set_option maxRecDepth 100000 in
theorem idsOf_ok (A0 : Option Addr) (nn nc : Nat) (zs : List NdIn) (w0 : World) (hz : zs.length = nn) (hn : nn ≤ 60) (h : NodesAt w0 A0 zs) (hp : ∀ z ∈ zs, z.pn ≤ 300) :
    Calls Try.prog 23 #[.slice A0 nn nc] w0 fun e w' => ∃ p t, e = .returned (.tuple #[p, t]) ∧ Hid (IdsJ w0 w' p t (partsN zs) (treesN zs)) := by
  obtain ⟨iI, hiI, hzI0, hzI1, hzI2⟩ := info_parts infoI
  have HZ := Lib.hid hz
  have HN := Lib.hid h
  have HP : Hid (∀ z ∈ zs, z.n.ids.length ≤ 300) := Lib.hid fun z hz => by
    have h1 := (h.fit z hz).1.ids
    have h2 := hp z hz
    omega
  clear hz h hp
  go_enter Try.func23, Try.ntmps23
  go_wp2_with fail
  go_loopw [4, 5, 10] (fun p t i wr => ∃ k : Nat, k ≤ nn ∧ i = .int .i64 k ∧ Hid (IdsJ w0 wr p t (partsN (zs.take k)) (treesN (zs.take k)))) (fun _ _ i _ => nn - (intOf i).toNat)
  case atStart => exact ⟨0, by omega, rfl, IdsJ.begin_ _⟩
  case round =>
    obtain ⟨k, hk, rfl, HM⟩ := hrel
    obtain ⟨wq, hwq⟩ : ∃ w, w = wr := ⟨_, rfl⟩
    subst hwq
    by_cases hlt : k < nn
    · have hkz : k < zs.length := by rw [HZ.out]; exact hlt
      obtain ⟨b, o, e1, hb, hat⟩ := (HN.out.q HM.out.q).at_ k hkz
      have hfit := HN.out.fit zs[k] (List.getElem_mem hkz)
      have hpa := (HN.out.q HM.out.q).parts zs[k] (List.getElem_mem hkz)
      have hpn := HP.out zs[k] (List.getElem_mem hkz)
      have HT1 := Lib.hid (partsN_take hkz)
      have HT2 := Lib.hid (treesN_take hkz)
      have HPL : Hid ((partsN (zs.take k)).length ≤ 18000) := Lib.hid (by
        have h1 := partsN_len (zs := zs.take k) (fun z hz => HP.out z (List.mem_of_mem_take hz))
        rw [List.length_take] at h1; omega)
      have HTL : Hid ((treesN (zs.take k)).length ≤ 60) := Lib.hid (by
        have h1 := treesN_len (zs.take k)
        rw [List.length_take] at h1; omega)
      generalize zs[k] = z at *
      generalize partsN (zs.take k) = P at *
      generalize treesN (zs.take k) = T at *
      obtain ⟨n, A, pn, pc⟩ := z
      simp only at hfit hat hpa hpn HT1 HT2
      have hids := hfit.1.ids
      have HAT := Lib.hid hat
      have HPA := Lib.hid hpa
      have HPN : Hid (n.ids.length = pn ∧ pn ≤ 300) := Lib.hid ⟨hids, by omega⟩
      clear hkz hat hfit hpa hpn hids
      subst e1
      by_cases h0 : n.kind = 0
      · have HPN2 : Hid (partsN (zs.take (k + 1)) = P ++ n.ids ∧ treesN (zs.take (k + 1)) = T) := Lib.hid ⟨by rw [HT1.out, if_pos h0], by rw [HT2.out, h0]; simp⟩
        go_wp2_with (first
          | ((with_reducible refine gate 13 rfl ?_); go_loud (refine wpList_val rfl (load_node (.tmp 12) rfl rfl HAT.out) ?_))
          | ((with_reducible refine gate 7 rfl ?_); go_loud (refine wpList_alloc_row rfl 33 rfl _ (zeroN _) 39 _ (ndC_size _ _ _ _) (ndC_get _ _ _ _) ?_; intro w1 hr1 hx1; have H1 := Lib.hid (And.intro hr1 (hx1.q (Q.refl _))); clear hr1 hx1))
          | ((with_reducible refine gate0 rfl ?_); go_loud (refine wpList_store_all rfl 33 (.tmp 7) (.tmp 13) rfl wq.heap.size rfl _ rfl 39 sizeN _ (nd_agg n A pn pc) (fun i _ => ndF_one _ _ _ _ i) 33 _ H1.out.1 ?_; intro wr2 hr2 hp2; have HB := Lib.hid (NodeAt.of_row hr2); have HQ2 := Lib.hid (hp2.q H1.out.2 (Nat.le_refl _)); have HM2 := Lib.hid (HM.out.step HQ2.out); obtain ⟨c0, c1, c2, c3, c4, c5, c6⟩ := nd_cells HB.out; clear hr2 hp2 c0 c2 c3 c4 c5))
          | ((with_reducible refine gate 21 rfl ?_); go_loud (refine wpList_append_any rfl (.tmp 18) (.tmp 20) 22 rfl w0.heap.size 24 iI _ 32 32 Try.underlying22 hiI hzI0 hzI1 hzI2 rfl (by omega) _ P.length (idsL P) rfl HM2.out.po (· < wr2.heap.size) A pn pc (idsL n.ids) rfl (by rw [← HPN.out.1]; exact flat_len n.ids (fun x _ => gL_len x)) (SeesP.on HPA.out HQ2.out) idsL_one (by have := HPL.out; have := HPN.out.2; unfold maxLen; omega) (by have := HPL.out; have := HPN.out.2; omega) HM2.out.q.size ?_; intro v7 w7 hown7 hgr7; have HM7 := Lib.hid (HM2.out.parts (L := n.ids) hgr7 (by rw [HPN.out.1]; exact hown7)); clear hown7 hgr7)))
        go_roundw
        case rel => exact ⟨k + 1, by omega, by go_num, by rw [HPN2.out.1, HPN2.out.2]; exact HM7⟩
        case measure => simp [intOf]; omega
      · by_cases h1 : n.kind = 1
        · have HPN2 : Hid (partsN (zs.take (k + 1)) = P ∧ treesN (zs.take (k + 1)) = T ++ [n.tree]) := Lib.hid ⟨by rw [HT1.out, if_neg h0, List.append_nil], by rw [HT2.out, if_pos h1]⟩
          clear h0
          go_wp2_with (first
          | ((with_reducible refine gate 13 rfl ?_); go_loud (refine wpList_val rfl (load_node (.tmp 12) rfl rfl HAT.out) ?_))
          | ((with_reducible refine gate 7 rfl ?_); go_loud (refine wpList_alloc_row rfl 33 rfl _ (zeroN _) 39 _ (ndC_size _ _ _ _) (ndC_get _ _ _ _) ?_; intro w1 hr1 hx1; have H1 := Lib.hid (And.intro hr1 (hx1.q (Q.refl _))); clear hr1 hx1))
          | ((with_reducible refine gate0 rfl ?_); go_loud (refine wpList_store_all rfl 33 (.tmp 7) (.tmp 13) rfl wq.heap.size rfl _ rfl 39 sizeN _ (nd_agg n A pn pc) (fun i _ => ndF_one _ _ _ _ i) 33 _ H1.out.1 ?_; intro wr2 hr2 hp2; have HB := Lib.hid (NodeAt.of_row hr2); have HQ2 := Lib.hid (hp2.q H1.out.2 (Nat.le_refl _)); have HM2 := Lib.hid (HM.out.step HQ2.out); obtain ⟨c0, c1, c2, c3, c4, c5, c6⟩ := nd_cells HB.out; clear hr2 hp2 c0 c2 c3 c4 c5))
          | ((with_reducible refine gate 26 rfl ?_); go_loud (refine wpList_val rfl (load_id 7 (.tmp 25) rfl rfl HB.out.tree) ?_))
          | ((with_reducible refine gate 27 rfl ?_); go_loud (refine wpList_val rfl (run_row_id (.tmp 26) rfl n.tree rfl _) ?_; have HSX : Hid (SeesP (wr2.alloc (.cells (gL n.tree).toArray 24)) (· = wr2.heap.size) (some ⟨wr2.heap.size, 0, none⟩) (gL n.tree)) := Lib.hid (sees_new wr2 (gL n.tree) _ _ rfl); have HM3 := Lib.hid (HM2.out.step ((Q.refl wr2).alloc (.cells (gL n.tree).toArray 24)))))
          | ((with_reducible refine gate 28 rfl ?_); go_loud (refine wpList_append_any rfl (.tmp 24) (.tmp 27) 22 rfl w0.heap.size 24 iI _ 32 32 Try.underlying22 hiI hzI0 hzI1 hzI2 rfl (by omega) _ T.length (idsL T) rfl HM3.out.to_ (· = wr2.heap.size) (some ⟨wr2.heap.size, 0, none⟩) 1 1 (gL n.tree) rfl (gL_len _) HSX.out (gL_one _) (by have := HTL.out; unfold maxLen; omega) (by have := HTL.out; omega) HM3.out.q.size ?_; intro v7 w7 hown7 hgr7; have HM7 := Lib.hid (HM3.out.trees hgr7 hown7); clear hown7 hgr7)))
          go_roundw
          case rel => exact ⟨k + 1, by omega, by go_num, by rw [HPN2.out.1, HPN2.out.2]; exact HM7⟩
          case measure => simp [intOf]; omega
        · have HPN2 : Hid (partsN (zs.take (k + 1)) = P ∧ treesN (zs.take (k + 1)) = T) := Lib.hid ⟨by rw [HT1.out, if_neg h0, List.append_nil], by rw [HT2.out, if_neg h1, List.append_nil]⟩
          have hb0 : (n.kind == 0) = false := by simp [h0]
          have hb1 : (n.kind == 1) = false := by simp [h1]
          go_wp2_with (first
          | ((with_reducible refine gate 13 rfl ?_); go_loud (refine wpList_val rfl (load_node (.tmp 12) rfl rfl HAT.out) ?_))
          | ((with_reducible refine gate 7 rfl ?_); go_loud (refine wpList_alloc_row rfl 33 rfl _ (zeroN _) 39 _ (ndC_size _ _ _ _) (ndC_get _ _ _ _) ?_; intro w1 hr1 hx1; have H1 := Lib.hid (And.intro hr1 (hx1.q (Q.refl _))); clear hr1 hx1))
          | ((with_reducible refine gate0 rfl ?_); go_loud (refine wpList_store_all rfl 33 (.tmp 7) (.tmp 13) rfl wq.heap.size rfl _ rfl 39 sizeN _ (nd_agg n A pn pc) (fun i _ => ndF_one _ _ _ _ i) 33 _ H1.out.1 ?_; intro wr2 hr2 hp2; have HB := Lib.hid (NodeAt.of_row hr2); have HQ2 := Lib.hid (hp2.q H1.out.2 (Nat.le_refl _)); have HM2 := Lib.hid (HM.out.step HQ2.out); obtain ⟨c0, c1, c2, c3, c4, c5, c6⟩ := nd_cells HB.out; clear hr2 hp2 c0 c2 c3 c4 c5)))
          go_roundw
          case rel => exact ⟨k + 1, by omega, by go_num, by rw [HPN2.out.1, HPN2.out.2]; exact HM2⟩
          case measure => simp [intOf]; omega
    · obtain rfl : nn = k := by omega
      have HR : Hid (zs.take nn = zs) := Lib.hid (List.take_of_length_le (by rw [HZ.out]; exact Nat.le_refl _))
      go_wp2_with fail
      go_ret2
      exact ⟨_, _, rfl, by rw [← HR.out]; exact HM⟩
end
end Go.Proofs.Ytffenfhbiapefaa
