/- A knife that is fed, while all pieces are kept in a row. -/
import Derived.Test.YtcdbffgmgfblkaaDoorToa
namespace Go.Proofs.YtcdbffgmgfblkaaDoor
set_option linter.unusedVariables false
set_option linter.unusedSimpArgs false
open Go.RowKit

/-- Since world w0: the knife has p; the pieces zs stand in the row parts. -/
structure KSt (w0 wr : World) (kn r lb : Nat) (ru : Rl) (zs : List (Value × List Nat)) (parts : Value) (p : List Nat) (v : Value) : Prop where
  knife : KnifeHas wr w0.heap.size kn r lb ru p v
  outs : wr.ownsRow w0.heap.size 22 1 parts zs.length (zs.map (·.1))
  pcs : ∀ z ∈ zs, wr.ownsRow w0.heap.size 5 1 z.1 z.2.length (z.2.map B8) ∧ ∀ x ∈ z.2, x ≤ 255
  outFar : ∀ k, KnifeS kn r lb v k → parts.ownBlock ≠ some k
  pcsFar : ∀ z ∈ zs, (∀ k, KnifeS kn r lb v k → z.1.ownBlock ≠ some k) ∧ Far z.1 parts
  q : Q w0 wr
section
variable {w0 wr w2 w3 : World} {kn r lb : Nat} {ru : Rl} {zs zs2 : List (Value × List Nat)} {parts parts' : Value} {p p2 : List Nat} {v v2 : Value}
theorem KSt.begin_ (h : KnifeHas wr w0.heap.size kn r lb ru [] v) (hq : Q w0 wr) : KSt w0 wr kn r lb ru [] (.slice none 0 0) [] v :=
  ⟨h, World.ownsRow_nil _ _ _ _, by simp, by simp [Value.ownBlock], by simp, hq⟩
theorem KSt.step (h : KSt w0 wr kn r lb ru zs parts p v) (hq : Q wr w2) : KSt w0 w2 kn r lb ru zs parts p v :=
  ⟨h.knife.q hq, own_below h.outs hq, fun z hz => ⟨own_below (h.pcs z hz).1 hq, (h.pcs z hz).2⟩, h.outFar, h.pcsFar, h.q.step hq⟩
theorem knifeS_of {kn r lb k : Nat} {v v2 : Value} (h : KnifeS kn r lb v2 k) : KnifeS kn r lb v k ∨ v2.ownBlock = some k := by
  rcases h with h | h | h | h
  · exact .inl (.inl h)
  · exact .inl (.inr (.inl h))
  · exact .inl (.inr (.inr (.inl h)))
  · exact .inr h
/-- More pieces. -/
theorem KSt.more (h : KSt w0 wr kn r lb ru zs parts p v) (hk : KnifeHas w2 w0.heap.size kn r lb ru p2 v2) (ho : Only (KnifeS kn r lb v) wr w2) (hn : NewOr wr v v2)
    (hz : ∀ z ∈ zs2, (w2.ownsRow w0.heap.size 5 1 z.1 z.2.length (z.2.map B8) ∧ ∀ x ∈ z.2, x ≤ 255) ∧ (∀ k, KnifeS kn r lb v2 k → z.1.ownBlock ≠ some k) ∧ NewOr wr v z.1)
    (hg : Grew w2 w3 parts parts') (hown : w3.ownsRow w0.heap.size 22 1 parts' (zs.length + zs2.length) (zs.map (·.1) ++ zs2.map (·.1))) : KSt w0 w3 kn r lb ru (zs ++ zs2) parts' p2 v2 := by
  have hpl := own_lt h.outs
  have hgo : Only (fun g => parts.ownBlock = some g) w2 w3 := hg.only _ (fun g h => h)
  have outFar2 : ∀ k, KnifeS kn r lb v2 k → parts.ownBlock ≠ some k := fun k hk2 he => by
    rcases knifeS_of (v := v) hk2 with h' | h'
    · exact h.outFar k h' he
    · rcases hn k h' with h'' | h''
      · exact h.outFar k (.inr (.inr (.inr h''))) he
      · have := hpl k he; omega
  have h1 : ∀ z ∈ zs, w2.ownsRow w0.heap.size 5 1 z.1 z.2.length (z.2.map B8) := fun z hz' => own_only (h.pcs z hz').1 ho (fun g hg hs => (h.pcsFar z hz').1 g hs hg)
  have f2 : ∀ z ∈ zs2, Far parts z.1 := fun z hz' g hg1 hg2 => by
    rcases (hz z hz').2.2 g hg2 with h' | h'
    · exact h.outFar g (.inr (.inr (.inr h'))) hg1
    · have := hpl g hg1; omega
  refine ⟨hk.only hgo (fun k hk2 he => outFar2 k hk2 he), by simpa using hown, ?_, ?_, ?_, ?_⟩
  · intro z hz'
    rcases List.mem_append.1 hz' with hz' | hz'
    · exact ⟨hg.keeps (h.pcsFar z hz').2.symm (h1 z hz'), (h.pcs z hz').2⟩
    · exact ⟨hg.keeps (f2 z hz') (hz z hz').1.1, (hz z hz').1.2⟩
  · intro k hk2 he
    rcases hg.own with h' | ⟨g, h', hg'⟩
    · exact outFar2 k hk2 (h' ▸ he)
    · rw [h'] at he; injection he with he
      have := hk.lt k hk2
      omega
  · intro z hz'
    rcases List.mem_append.1 hz' with hz' | hz'
    · refine ⟨fun k hk2 he => ?_, (hg.far (h.pcsFar z hz').2.symm (h1 z hz')).symm⟩
      rcases knifeS_of (v := v) hk2 with h' | h'
      · exact (h.pcsFar z hz').1 k h' he
      · rcases hn k h' with h'' | h''
        · exact (h.pcsFar z hz').1 k (.inr (.inr (.inr h''))) he
        · have := own_lt (h.pcs z hz').1 k he; omega
    · exact ⟨(hz z hz').2.1, (hg.far (f2 z hz') (hz z hz').1.1).symm⟩
  · exact hgo.q (ho.q h.q (fun k hk2 => h.knife.ge k hk2)) (fun k he => own_block h.outs k he)
/-- What was fed. -/
theorem KSt.fed {out : Value} (h : KSt w0 wr kn r lb ru zs parts p v) (hf : Fed wr v w2 w0.heap.size kn r lb ru zs2 out p2 v2) (hg : Grew w2 w3 parts parts')
    (hown : w3.ownsRow w0.heap.size 22 1 parts' (zs.length + zs2.length) (zs.map (·.1) ++ zs2.map (·.1))) : KSt w0 w3 kn r lb ru (zs ++ zs2) parts' p2 v2 :=
  h.more hf.knife hf.only hf.newV (fun z hz => ⟨⟨(hf.pcs z hz).1, (hf.pcs z hz).2.2⟩, (hf.pcsFar z hz).1, hf.newPcs z hz⟩) hg hown
/-- The parts, behind what was fed and ahead of the append. -/
theorem KSt.outs_fed {out : Value} (h : KSt w0 wr kn r lb ru zs parts p v) (hf : Fed wr v w2 w0.heap.size kn r lb ru zs2 out p2 v2) : w2.ownsRow w0.heap.size 22 1 parts zs.length (zs.map (·.1)) :=
  own_only h.outs hf.only (fun g hg hs => h.outFar g hs hg)
/-- The last piece was taken. -/
theorem KSt.outs_took (h : KSt w0 wr kn r lb ru zs parts p v) (ho : Only (OwnK kn r lb) wr w2) : w2.ownsRow w0.heap.size 22 1 parts zs.length (zs.map (·.1)) :=
  own_only h.outs ho (fun g hg hs => by
    rcases hs with hs | hs | hs
    · exact h.outFar g (.inl hs) hg
    · exact h.outFar g (.inr (.inl hs)) hg
    · exact h.outFar g (.inr (.inr (.inl hs))) hg)
theorem KSt.took (h : KSt w0 wr kn r lb ru zs parts p v) (hk : KnifeHas w2 w0.heap.size kn r lb ru [] (.slice none 0 0)) (ho : Only (OwnK kn r lb) wr w2) {o : Obj} (hg : Grew (w2.alloc o) w3 parts parts')
    (hown : w3.ownsRow w0.heap.size 22 1 parts' (zs.length + 1) (zs.map (·.1) ++ [v])) : KSt w0 w3 kn r lb ru (zs ++ [(v, p)]) parts' [] (.slice none 0 0) := by
  have hvf : ∀ g, v.ownBlock = some g → ¬ OwnK kn r lb g := fun g hg hk => by
    obtain ⟨h1, h2, h3⟩ := h.knife.far
    rcases hk with rfl | rfl | rfl
    · exact h1 hg
    · exact h2 hg
    · exact h3 hg
  refine h.more (hk.q ((Q.refl _).alloc o)) ((ho.mono fun k hk => ?_).alloc o) (fun g hg => by cases hg) (fun z hz => ?_) hg hown
  · rcases hk with hk | hk | hk
    · exact .inl hk
    · exact .inr (.inl hk)
    · exact .inr (.inr (.inl hk))
  · obtain rfl := List.mem_singleton.1 hz
    refine ⟨⟨own_below (own_only h.knife.own ho hvf) ((Q.refl _).alloc o), h.knife.byte⟩, fun k hk hk' => hvf k hk' ?_, fun g hg => .inl hg⟩
    rcases hk with hk | hk | hk | hk
    · exact .inl hk
    · exact .inr (.inl hk)
    · exact .inr (.inr hk)
    · cases hk
end
end Go.Proofs.YtcdbffgmgfblkaaDoor
