/- Plain: what was written is read; a beginning, or a byte more, is nobody's. -/
import Derived.Test.YtffenfhbiapefaaNdl
namespace Go.Proofs.Ytffenfhbiapefaa
set_option linter.unusedVariables false
set_option linter.unusedSimpArgs false
open Go.RowKit

theorem num_back {limit : Int} {v : Nat} (R : List Nat) (hv : v < 4611686018427387904) (hl : (v : Int) ≤ limit) : numRd limit (0, numL v ++ R) = (v, (0, R)) := by
  refine numRd_ok ?_
  have := rdNum_back limit v 0 0 R (by omega) (by omega) (by have := numL_nine hv; omega) (by omega)
  simpa using this
theorem raw_back {n : Nat} {X : List Nat} (R : List Nat) (hn : X.length = n) : rawRd (n : Int) (0, X ++ R) = (X, (0, R)) := by
  subst hn
  unfold rawRd
  rw [if_pos rfl, if_neg (by omega), if_neg (by rw [List.length_append]; omega)]
  simp
theorem text_back {limit : Int} {s : ByteArray} (R : List Nat) (hl : (s.size : Int) ≤ limit) (hm : limit ≤ 131072) : textRd limit (0, textL s ++ R) = (bytesOf s, (0, R)) := by
  unfold textRd textL
  rw [show min limit 131072 = limit by omega, List.append_assoc, num_back _ (by omega) hl]
  exact raw_back R (bytesOf_len s)
theorem id_back {x : List Nat} (R : List Nat) (hx : x.length = 32) : idRd (0, x ++ R) = (x, (0, R)) := by
  unfold idRd
  have h := raw_back (n := 32) R hx
  have h2 : rawRd 32 (0, x ++ R) = (x, (0, R)) := h
  rw [h2]
  rfl
theorem ids_back : ∀ (l : List (List Nat)) (R : List Nat), (∀ i ∈ l, i.length = 32) → idsRd l.length (0, l.flatten ++ R) = (l, (0, R))
  | [], R, _ => rfl
  | a :: l, R, h => by
    rw [List.length_cons, idsRd, if_neg (by simp), List.flatten_cons, List.append_assoc, id_back _ (h a (by simp))]
    simp only
    rw [ids_back l R (fun i hi => h i (List.mem_cons_of_mem _ hi))]
theorem numZ_back {limit : Int} {z : Int} (R : List Nat) (h0 : 0 ≤ z) (hv : z < 4611686018427387904) (hl : z ≤ limit) : numRd limit (0, numZ z ++ R) = (z.toNat, (0, R)) := num_back R (by omega) (by omega)
theorem empty_of {s : ByteArray} (h : s.toList = []) : s = ⟨#[]⟩ := toList_inj (by rw [h, Lib.toList_data])
theorem strB_empty : strB (bytesOf ⟨#[]⟩) = ⟨#[]⟩ := rfl
theorem get_back {n : Nd} (R : List Nat) (hc : checkN n = 0) (hi : ∀ i ∈ n.ids, i.length = 32) (ht : n.tree.length = 32) : getRd (0, encNd n ++ R) = (n, (0, R)) := by
  have g := good_of hc
  have hname := g.name
  have hkind := g.kind
  unfold getRd headRd encNd
  simp only [List.append_assoc]
  rw [text_back _ (by omega) (by omega)]
  simp only
  rw [numZ_back _ (by omega) (by omega) (by omega)]
  simp only
  rw [numZ_back _ g.mode.1 (by have := g.mode.2; omega) g.mode.2]
  simp only
  rw [numZ_back _ g.time.1 (by have := g.time.2; omega) g.time.2]
  simp only
  have e1 : ((n.kind.toNat : Nat) : Int) = n.kind := Int.toNat_of_nonneg (by omega)
  have e2 : ((n.mode.toNat : Nat) : Int) = n.mode := Int.toNat_of_nonneg g.mode.1
  have e3 : ((n.time.toNat : Nat) : Int) = n.time := Int.toNat_of_nonneg g.time.1
  rw [e1, e2, e3, strB_bytesOf]
  unfold tailRd
  simp only
  by_cases h0 : n.kind = 0
  · obtain ⟨f1, f2, f3, f4, f5⟩ := g.file h0
    rw [if_pos h0, if_pos h0, List.append_assoc, List.append_assoc, numZ_back _ f3.1 (by omega) f3.2]
    simp only
    rw [Int.toNat_of_nonneg f3.1, num_back _ (by omega) f4]
    simp only
    rw [ids_back _ _ hi]
    have f1 := empty_of f1
    obtain ⟨nm, kd, md, tm, sz, tg, ids, tr⟩ := n
    simp only at *
    subst f1 f2
    rfl
  · rw [if_neg h0, if_neg h0]
    by_cases h1 : n.kind = 1
    · obtain ⟨f1, f2, f3⟩ := g.dir h1
      rw [if_pos h1, if_pos h1, id_back _ ht]
      have f1 := empty_of f1
      have f2 : n.ids = [] := List.eq_nil_of_length_eq_zero (by omega)
      obtain ⟨nm, kd, md, tm, sz, tg, ids, tr⟩ := n
      simp only at *
      subst f1 f2 f3
      rfl
    · have h2 : n.kind = 2 := by omega
      obtain ⟨f1, f2, f3, f4⟩ := g.link h2
      rw [if_neg h1, if_neg h1, if_pos h2, text_back _ (by omega) (by omega)]
      have f2 : n.ids = [] := List.eq_nil_of_length_eq_zero (by omega)
      simp only
      rw [strB_bytesOf]
      obtain ⟨nm, kd, md, tm, sz, tg, ids, tr⟩ := n
      simp only at *
      subst f2 f3 f4
      rfl
theorem dec_back : ∀ (ns out : List Nd) (R : List Nat), (∀ n ∈ ns, checkN n = 0 ∧ (∀ i ∈ n.ids, i.length = 32) ∧ n.tree.length = 32) → risesTo (out ++ ns) (out ++ ns).length = true → decLoop ns.length out (0, ns.flatMap encNd ++ R) = some (out ++ ns, (0, R))
  | [], out, R, _, _ => by simp [decLoop]
  | n :: ns, out, R, h, hr => by
    obtain ⟨h1, h2, h3⟩ := h n (by simp)
    rw [List.length_cons, decLoop, List.flatMap_cons, List.append_assoc, get_back _ h1 h2 h3]
    have hn : okNext out n = true := by
      unfold okNext
      rw [Bool.and_eq_true]
      refine ⟨decide_eq_true h1, ?_⟩
      have h4 := risesTo_le (k := out.length + 1) hr (by simp)
      rw [show out ++ n :: ns = (out ++ [n]) ++ ns by simp, risesTo_append _ _ _ (by simp), rises_next, Bool.and_eq_true] at h4
      exact h4.2
    rw [if_pos ⟨rfl, hn⟩]
    rw [dec_back ns (out ++ [n]) R (fun m hm => h m (List.mem_cons_of_mem _ hm)) (by simpa using hr)]
    simp
theorem open_back (F : List Nat) : openRd 110 ([72, 89, 110] ++ F) = (0, F) := openRd_ok 110 F
theorem decN_back {ns : List Nd} {L : List Nat} (h : encN ns = (L, 0)) (hi : ∀ n ∈ ns, (∀ i ∈ n.ids, i.length = 32) ∧ n.tree.length = 32) : decN L = (ns, 0) := by
  obtain ⟨f1, f2, f3, rfl⟩ := encN_form h
  unfold decN
  rw [List.append_assoc, open_back, num_back _ (by omega) (by omega)]
  have h1 := dec_back ns [] [] (fun n hn => ⟨f1 n hn, hi n hn⟩) (by simpa using f2)
  rw [List.append_nil, List.nil_append] at h1
  rw [h1]
  simp only
  rw [if_pos (end_zero.2 ⟨rfl, rfl⟩)]
/-- Of two rows of nodes' bytes none is a beginning of the other. -/
theorem enc_prefix {ns ms : List Nd} {M T : List Nat} (h1 : encN ns = (M ++ T, 0)) (h2 : encN ms = (M, 0)) (hn : ∀ n ∈ ns, (∀ i ∈ n.ids, i.length = 32) ∧ n.tree.length = 32) (hm : ∀ n ∈ ms, (∀ i ∈ n.ids, i.length = 32) ∧ n.tree.length = 32) : T = [] := by
  obtain ⟨a1, a2, a3, a4⟩ := encN_form h1
  obtain ⟨b1, b2, b3, b4⟩ := encN_form h2
  rw [b4, List.append_assoc, List.append_assoc, List.append_assoc, List.append_cancel_left_eq] at a4
  have c1 := num_back (limit := 2000) (v := ns.length) (ns.flatMap encNd) (by omega) (by omega)
  have c2 := num_back (limit := 2000) (v := ms.length) (ms.flatMap encNd ++ T) (by omega) (by omega)
  rw [← a4, c2] at c1
  injection c1 with d1 d2
  injection d2 with d2 d3
  have e1 := dec_back ns [] [] (fun n hn' => ⟨a1 n hn', hn n hn'⟩) (by simpa using a2)
  have e2 := dec_back ms [] T (fun n hn' => ⟨b1 n hn', hm n hn'⟩) (by simpa using b2)
  rw [List.append_nil, ← d3, ← d1, e2] at e1
  injection e1 with e1
  injection e1 with _ e1
  injection e1
theorem dec_short {ns : List Nd} {L : List Nat} (h : encN ns = (L, 0)) (hb : ∀ x ∈ L, x ≤ 255) (hi : ∀ n ∈ ns, (∀ i ∈ n.ids, i.length = 32) ∧ n.tree.length = 32) (k : Nat) (hk : k < L.length) : decN (L.take k) = ([], 2) := by
  rcases decN_sound (L := L.take k) (fun x hx => hb x (List.mem_of_mem_take hx)) with h1 | ⟨ms, _, h2, h3, _⟩
  · exact h1
  · exfalso
    have h4 := enc_prefix (T := L.drop k) (by rw [List.take_append_drop]; exact h) h2 hi (fun n hn => ⟨fun i hi => ((h3 n hn).2.ids i hi).1, (h3 n hn).2.tree⟩)
    have := congrArg List.length h4
    simp at this
    omega
theorem dec_long {ns : List Nd} {L : List Nat} (h : encN ns = (L, 0)) (hb : ∀ x ∈ L, x ≤ 255) (hi : ∀ n ∈ ns, (∀ i ∈ n.ids, i.length = 32) ∧ n.tree.length = 32) (x : Nat) (hx : x ≤ 255) : decN (L ++ [x]) = ([], 2) := by
  rcases decN_sound (L := L ++ [x]) (fun y hy => by
    rcases List.mem_append.1 hy with hy | hy
    · exact hb y hy
    · rw [List.mem_singleton.1 hy]; exact hx) with h1 | ⟨ms, _, h2, h3, _⟩
  · exact h1
  · exfalso
    have h4 := enc_prefix (T := [x]) h2 h (fun n hn => ⟨fun i hi => ((h3 n hn).2.ids i hi).1, (h3 n hn).2.tree⟩) hi
    cases h4
end Go.Proofs.Ytffenfhbiapefaa
