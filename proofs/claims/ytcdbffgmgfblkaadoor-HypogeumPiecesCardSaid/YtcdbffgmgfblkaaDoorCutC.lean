/- The walk through a knife's take; what Feed leaves. -/
import Derived.Test.YtcdbffgmgfblkaaDoorCutB
namespace Go.Proofs.YtcdbffgmgfblkaaDoor
set_option linter.unusedVariables false
set_option linter.unusedSimpArgs false
open Go.RowKit

/-- The knife's own blocks, without the piece's. -/
def OwnK (kn r lb k : Nat) : Prop := k = kn ∨ k = r ∨ k = lb
/-- The piece was taken. -/
def TookPiece (w : World) (base kn r lb : Nat) (ru : Rl) (v : Value) (e : Ending) (w' : World) : Prop :=
  e = .returned v ∧ KnifeHas w' base kn r lb ru [] (.slice none 0 0) ∧ Only (OwnK kn r lb) w w'

set_option maxHeartbeats 4000000 in
set_option maxRecDepth 100000 in
theorem take_ok (ru : Rl) (base kn r lb : Nat) (p : List Nat) (v : Value) (w : World) (hr : ru.Right) (hk : KnifeHas w base kn r lb ru p v) :
    Calls Tryd.prog 49 #[.pointer (some ⟨kn, 0, none⟩)] w (TookPiece w base kn r lb ru v) := by
  obtain ⟨hrow, hown, hroll, hf, ⟨ha1, ha2⟩, hb, hby⟩ := hk
  have hm0 : ru.m ≠ 0 := Pol.len_pos.1 (by have := hr.deg; omega)
  have c6 : w.cell? ⟨kn, 6, none⟩ = some v := hrow.cell (i := 6) (by omega)
  have c0 : w.cell? ⟨kn, 0, none⟩ = some (.pointer (some ⟨r, 0, none⟩)) := hrow.cell (i := 0) (by omega)
  have z6 := hrow.frozen 6
  have hcl := Lib.hid (clear_ok ru.m 64 r lb _ (w.setCell ⟨kn, 6, none⟩ (.slice none 0 0)) hm0 (by omega) (hroll.setOther (p := ⟨kn, 6, none⟩) ha1 ha2 _))
  have HROW := Lib.hid (knife_set hrow (.slice none 0 0))
  obtain ⟨A, n, c, rfl⟩ : ∃ A n c, v = .slice A n c := by
    rcases Go.Joins.ownsRow_forms hown with ⟨h, _⟩ | ⟨g, cap, h⟩
    · exact ⟨_, _, _, h⟩
    · exact ⟨_, _, _, h⟩
  clear hrow hown hroll
  go_enter Tryd.func49, Tryd.ntmps49
  go_wp2_with (go_at_call 58; (with_reducible refine hcl.out.mono ?_); rintro e w1 ⟨rfl, hr1, ho1⟩)
  go_ret
  refine ⟨rfl, ⟨ho1.row HROW.out (fun h => by rcases h with h | h; exact ha1 h; exact ha2 h), World.ownsRow_nil _ _ _ _, ?_, by simp [Value.ownBlock], ⟨ha1, ha2⟩, hb, by simp⟩, ?_⟩
  · exact hr1
  · exact ((Only.refl (OwnK kn r lb) w).setCell (p := ⟨kn, 6, none⟩) (.inl rfl) _).trans (ho1.mono (fun k hk => by rcases hk with h | h; exact .inr (.inl h); exact .inr (.inr h)))


/-- Since world w, where the knife had its bytes in v0: the pieces zs were cut, and are in the row out; the bytes p are in v. -/
structure Fed (w : World) (v0 : Value) (wr : World) (base kn r lb : Nat) (ru : Rl) (zs : List (Value × List Nat)) (out : Value) (p : List Nat) (v : Value) : Prop where
  knife : KnifeHas wr base kn r lb ru p v
  outs : wr.ownsRow base 22 1 out zs.length (zs.map (·.1))
  pcs : ∀ z ∈ zs, wr.ownsRow base 5 1 z.1 z.2.length (z.2.map B8) ∧ z.2 ≠ [] ∧ ∀ x ∈ z.2, x ≤ 255
  apart : zs.Pairwise (fun a b => Far a.1 b.1)
  outFar : ∀ k, KnifeS kn r lb v k → out.ownBlock ≠ some k
  pcsFar : ∀ z ∈ zs, (∀ k, KnifeS kn r lb v k → z.1.ownBlock ≠ some k) ∧ Far z.1 out
  only : Only (KnifeS kn r lb v0) w wr
  newV : NewOr w v0 v
  newOut : ∀ g, out.ownBlock = some g → w.heap.size ≤ g
  newPcs : ∀ z ∈ zs, NewOr w v0 z.1

section
variable {w wr w1 w2 : World} {v0 v v' out out' : Value} {base kn r lb : Nat} {ru : Rl} {zs : List (Value × List Nat)} {p p' : List Nat}
theorem Fed.begin_ (h : KnifeHas w base kn r lb ru p v) : Fed w v w base kn r lb ru [] (.slice none 0 0) p v :=
  ⟨h, World.ownsRow_nil _ _ _ _, by simp, List.Pairwise.nil, by simp [Value.ownBlock], by simp, Only.refl _ _, fun g hg => .inl hg, by simp [Value.ownBlock], by simp⟩
theorem Fed.knifeS (h : Fed w v0 wr base kn r lb ru zs out p v) {g : Nat} (hg : KnifeS kn r lb v g) : KnifeS kn r lb v0 g ∨ w.heap.size ≤ g := by
  rcases hg with hg | hg | hg | hg
  · exact .inl (.inl hg)
  · exact .inl (.inr (.inl hg))
  · exact .inl (.inr (.inr (.inl hg)))
  · rcases h.newV g hg with h' | h'
    · exact .inl (.inr (.inr (.inr h')))
    · exact .inr h'
/-- A byte more. -/
theorem Fed.byte (h : Fed w v0 wr base kn r lb ru zs out p v) (hk : KnifeHas w1 base kn r lb ru p' v') (ho : Only (KnifeS kn r lb v) wr w1) (hv : v'.ownBlock = v.ownBlock ∨ ∃ g, v'.ownBlock = some g ∧ wr.heap.size ≤ g) :
    Fed w v0 w1 base kn r lb ru zs out p' v' := by
  have hS : ∀ (u : Value) (xs : List Value) (e : TypeId) (n : Nat), wr.ownsRow base e 1 u n xs → (∀ k, KnifeS kn r lb v k → u.ownBlock ≠ some k) → ∀ k, KnifeS kn r lb v' k → u.ownBlock ≠ some k := by
    intro u xs e n hu hf k hk hk'
    rcases hk with hk | hk | hk | hk
    · exact hf k (.inl hk) hk'
    · exact hf k (.inr (.inl hk)) hk'
    · exact hf k (.inr (.inr (.inl hk))) hk'
    · rcases hv with hv | ⟨g, hv, hg⟩
      · exact hf k (.inr (.inr (.inr (hv ▸ hk)))) hk'
      · rw [hv] at hk; injection hk with hk
        have := own_lt hu k hk'
        omega
  refine ⟨hk, own_only h.outs ho (fun g hg hs => h.outFar g hs hg), fun z hz => ⟨own_only (h.pcs z hz).1 ho (fun g hg hs => (h.pcsFar z hz).1 g hs hg), (h.pcs z hz).2⟩, h.apart, hS out _ _ _ h.outs h.outFar,
    fun z hz => ⟨hS z.1 _ _ _ (h.pcs z hz).1 (h.pcsFar z hz).1, (h.pcsFar z hz).2⟩, h.only.through ho (fun g hg => h.knifeS hg), ?_, h.newOut, h.newPcs⟩
  intro g hg
  rcases hv with hv | ⟨g', hv, hg'⟩
  · exact h.newV g (hv ▸ hg)
  · rw [hv] at hg; injection hg with hg
    have := h.only.size
    exact .inr (by omega)
/-- The piece is taken, and stands behind the others. -/
theorem Fed.cut (h : Fed w v0 wr base kn r lb ru zs out p v) (hp : p ≠ []) (hk : KnifeHas w1 base kn r lb ru [] (.slice none 0 0)) (ho : Only (OwnK kn r lb) wr w1) (hg : Grew w1 w2 out out')
    (ho' : w2.ownsRow base 22 1 out' (zs.length + 1) (zs.map (·.1) ++ [v])) : Fed w v0 w2 base kn r lb ru (zs ++ [(v, p)]) out' [] (.slice none 0 0) := by
  have hK : ∀ k, OwnK kn r lb k → KnifeS kn r lb v k := fun k hk => by
    rcases hk with hk | hk | hk
    · exact .inl hk
    · exact .inr (.inl hk)
    · exact .inr (.inr (.inl hk))
  have hN : ∀ k, KnifeS kn r lb (.slice none 0 0) k → OwnK kn r lb k := fun k hk => by
    rcases hk with hk | hk | hk | hk
    · exact .inl hk
    · exact .inr (.inl hk)
    · exact .inr (.inr hk)
    · simp [Value.ownBlock] at hk
  have hvf : ∀ g, v.ownBlock = some g → ¬ OwnK kn r lb g := fun g hg hk => by
    obtain ⟨h1, h2, h3⟩ := h.knife.far
    rcases hk with rfl | rfl | rfl
    · exact h1 hg
    · exact h2 hg
    · exact h3 hg
  have hv1 : w1.ownsRow base 5 1 v p.length (p.map B8) := own_only h.knife.own ho hvf
  have ho1 : Far out v := fun g hg hgv => h.outFar g (.inr (.inr (.inr hgv))) hg
  have hz1 : ∀ z ∈ zs, w1.ownsRow base 5 1 z.1 z.2.length (z.2.map B8) := fun z hz => own_only (h.pcs z hz).1 ho (fun g hg hs => (h.pcsFar z hz).1 g (hK g hs) hg)
  have hgo : Only (fun g => out.ownBlock = some g) w1 w2 := hg.only _ (fun g h => h)
  refine ⟨hk.only hgo (fun k hk hs => h.outFar k (hK k (hN k hk)) hs), by simpa using ho', ?_, ?_, ?_, ?_, (h.only.through ho (fun g hg => h.knifeS (hK g hg))).through hgo (fun g hg => .inr (h.newOut g hg)), by simp [NewOr, Value.ownBlock], ?_, ?_⟩
  · intro z hz
    rcases List.mem_append.1 hz with hz | hz
    · exact ⟨hg.keeps (h.pcsFar z hz).2.symm (hz1 z hz), (h.pcs z hz).2⟩
    · obtain rfl := List.mem_singleton.1 hz
      exact ⟨hg.keeps ho1 hv1, hp, h.knife.byte⟩
  · refine List.pairwise_append.2 ⟨h.apart, List.pairwise_singleton _ _, fun a ha b hb => ?_⟩
    obtain rfl := List.mem_singleton.1 hb
    exact fun g hg hgv => (h.pcsFar a ha).1 g (.inr (.inr (.inr hgv))) hg
  · intro k hk hk'
    rcases hg.own with h' | ⟨g, h', hg'⟩
    · exact h.outFar k (hK k (hN k hk)) (h' ▸ hk')
    · rw [h'] at hk'; injection hk' with hk'
      have := h.knife.lt k (hK k (hN k hk))
      have := ho.size
      omega
  · intro z hz
    rcases List.mem_append.1 hz with hz | hz
    · exact ⟨fun k hk => (h.pcsFar z hz).1 k (hK k (hN k hk)), (hg.far (h.pcsFar z hz).2.symm (hz1 z hz)).symm⟩
    · obtain rfl := List.mem_singleton.1 hz
      exact ⟨fun k hk hk' => hvf k hk' (hN k hk), (hg.far ho1 hv1).symm⟩
  · intro g hg2
    rcases hg.own with h' | ⟨g', h', hg'⟩
    · exact h.newOut g (h' ▸ hg2)
    · rw [h'] at hg2; injection hg2 with hg2
      have := ho.size
      have := h.only.size
      omega
  · intro z hz
    rcases List.mem_append.1 hz with hz | hz
    · exact h.newPcs z hz
    · obtain rfl := List.mem_singleton.1 hz
      exact h.newV
end
theorem Rl.feed_snoc_no (r : Rl) {p X : List Nat} {x : Nat} (h : ¬ r.ends ((r.feed p X).2 ++ [x])) : r.feed p (X ++ [x]) = ((r.feed p X).1, (r.feed p X).2 ++ [x]) := by
  rw [r.feed_append, r.feed_no h, r.feed_nil]; simp
theorem Rl.feed_snoc_yes (r : Rl) {p X : List Nat} {x : Nat} (h : r.ends ((r.feed p X).2 ++ [x])) : r.feed p (X ++ [x]) = ((r.feed p X).1 ++ [(r.feed p X).2 ++ [x]], []) := by
  rw [r.feed_append, r.feed_yes h, r.feed_nil]
theorem Rl.open_len (r : Rl) (hr : r.Right) {p : List Nat} (h : r.Open p) : p.length < r.most := by
  rcases Nat.lt_or_ge p.length r.most with h1 | h1
  · exact h1
  · have := hr.l64; have := hr.lm
    exact absurd (.inl (by rw [List.length_take]; omega)) (h r.most (by omega) h1)
theorem Rl.feed_count (r : Rl) : ∀ (b p : List Nat), (r.feed p b).1.length ≤ b.length
  | [], p => by simp [r.feed_nil]
  | x :: b, p => by
    by_cases h : r.ends (p ++ [x])
    · rw [r.feed_yes h]; have := r.feed_count b []; simp; omega
    · rw [r.feed_no h]; have := r.feed_count b (p ++ [x]); simp; omega
end Go.Proofs.YtcdbffgmgfblkaaDoor
