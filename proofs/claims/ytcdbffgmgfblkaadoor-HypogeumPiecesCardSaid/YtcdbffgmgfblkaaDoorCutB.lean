/- The walks through a knife's ends and take. -/
import Derived.Test.YtcdbffgmgfblkaaDoorCutW
import Derived.Test.YtcdbffgmgfblkaaDoorOwn
import Derived.Lib.SmallJoins
namespace Go.Proofs.YtcdbffgmgfblkaaDoor
set_option linter.unusedVariables false
set_option linter.unusedSimpArgs false
open Go.RowKit


theorem RollHas.setOther {w : World} {r lb m N : Nat} {W : List Nat} (h : RollHas w r lb m N W) {p : Addr} (h1 : p.block ≠ r) (h2 : p.block ≠ lb) (u : Value) : RollHas (w.setCell p u) r lb m N W :=
  h.keep (Below.heap_setCell _ _ _ _ (Ne.symm h1)) (Below.heap_setCell _ _ _ _ (Ne.symm h2))

/-- The blocks of a knife. -/
def KnifeS (kn r lb : Nat) (v : Value) (k : Nat) : Prop := k = kn ∨ k = r ∨ k = lb ∨ v.ownBlock = some k
section
variable {w w' : World} {base kn r lb : Nat} {ru : Rl} {p : List Nat} {v : Value}
theorem KnifeHas.lt (h : KnifeHas w base kn r lb ru p v) : ∀ k, KnifeS kn r lb v k → k < w.heap.size := fun k hk => by
  rcases hk with rfl | rfl | rfl | hk
  · exact h.row.lt
  · exact h.roll.lt.1
  · exact h.roll.lt.2
  · exact own_lt h.own k hk
theorem KnifeHas.ge (h : KnifeHas w base kn r lb ru p v) : ∀ k, KnifeS kn r lb v k → base ≤ k := fun k hk => by
  rcases hk with rfl | rfl | rfl | hk
  · exact h.new.1
  · exact h.new.2.1
  · exact h.new.2.2
  · exact own_block h.own k hk
theorem KnifeHas.only {S : Nat → Prop} (h : KnifeHas w base kn r lb ru p v) (ho : Only S w w') (hS : ∀ k, KnifeS kn r lb v k → ¬ S k) : KnifeHas w' base kn r lb ru p v :=
  ⟨ho.row h.row (hS kn (.inl rfl)), own_only h.own ho (fun g hg => hS g (.inr (.inr (.inr hg)))), h.roll.only ho (hS r (.inr (.inl rfl))) (hS lb (.inr (.inr (.inl rfl)))), h.far, h.apart, h.new, h.byte⟩
theorem KnifeHas.q (h : KnifeHas w base kn r lb ru p v) (hq : Q w w') : KnifeHas w' base kn r lb ru p v :=
  h.only (S := fun _ => False) (Only.of_q hq) (fun _ _ => id)
theorem KnifeHas.alloc (h : KnifeHas w base kn r lb ru p v) (o : Obj) : KnifeHas (w.alloc o) base kn r lb ru p v := h.q ((Q.refl w).alloc o)
end

theorem push_one (m N r lb x : Nat) (t : TypeId) (W : List Nat) (w : World) (hm : m ≤ 18446744073709551615) (hl : 9 ≤ Pol.len m) (hN1 : 1 ≤ N) (hN2 : N ≤ 1024) (hh : RollHas w r lb m N W) (hx : x ≤ 255) :
    Calls Tryd.prog 57 #[.pointer (some ⟨r, 0, none⟩), .slice (some ⟨w.heap.size, 0, none⟩) 1 1] (w.alloc (.cells #[.int .u8 (x : Int)] t)) fun e w' => e = .returned (.int .u64 (Pol.roll m 0 (slide W [x]) : Nat)) ∧ RollHas w' r lb m N (slide W [x]) ∧ Only (Own2 r lb) w w' := by
  have hlt := hh.lt
  have h := push_ok m N r lb 1 1 (some ⟨w.heap.size, 0, none⟩) (fun b => b = w.heap.size) W [x] (w.alloc (.cells #[.int .u8 (x : Int)] t)) hm hl hN1 hN2 (hh.q ((Q.refl w).alloc _))
    (fun _ => ⟨_, 0, rfl, rfl, fun j u hu => by
      match j, hu with
      | 0, hu => simp at hu; subst hu; unfold B8; go_simp⟩)
    (fun b hb => by
      subst hb
      refine ⟨by simp, fun h => ?_⟩
      rcases h with h | h <;> omega) rfl (by omega) (by simp; omega)
  exact h.mono fun e w' ⟨h1, h2, h3⟩ => ⟨h1, h2, (Only.of_q ((Q.refl w).alloc _)).trans h3⟩

theorem bits_mask (s b : Nat) (hs : s ≤ 18446744073709551615) (hb : b ≤ 20) : bits .and .u64 (s : Int) ((2 ^ b - 1 : Nat) : Int) = ((s % 2 ^ b : Nat) : Int) := by
  rw [← and_mask s b hs (by omega), Int.natCast_sub (Nat.two_pow_pos b)]; rfl
theorem mask_all {s b : Nat} : s % 2 ^ b = 2 ^ b - 1 ↔ (s + 1) % 2 ^ b = 0 := by
  have hp := Nat.two_pow_pos b
  generalize 2 ^ b = M at *
  have h1 := Nat.mod_lt s hp
  rw [Nat.add_mod]
  by_cases hM : M = 1
  · subst hM; omega
  · rw [Nat.mod_eq_of_lt (show 1 < M by omega)]
    constructor
    · intro h; rw [h, Nat.sub_add_cancel hp, Nat.mod_self]
    · intro h
      rcases Nat.lt_or_ge (s % M + 1) M with h2 | h2
      · rw [Nat.mod_eq_of_lt h2] at h; omega
      · omega

theorem Rl.ends_snoc (ru : Rl) (p : List Nat) (x : Nat) : ru.ends (p ++ [x]) ↔ (p.length + 1 = ru.most ∨ ru.least ≤ p.length + 1 ∧ (Pol.roll ru.m 0 ((p ++ [x]).drop (p.length + 1 - 64)) + 1) % 2 ^ ru.bits = 0) := by
  unfold Rl.ends
  rw [List.length_append, List.length_singleton]

/-- The knife's row with other bytes. -/
theorem knife_set {w : World} {kn r : Nat} {ru : Rl} {v : Value} (h : w.rowIs kn 94 7 (knifeF ru r v)) (v' : Value) : (w.setCell ⟨kn, 6, none⟩ v').rowIs kn 94 7 (knifeF ru r v') :=
  (h.set 6 v').congr (fun i hi => by
    match i, hi with
    | 0, _ => rfl
    | 1, _ => rfl
    | 2, _ => rfl
    | 3, _ => rfl
    | 4, _ => rfl
    | 5, _ => rfl
    | 6, _ => rfl)
/-- Behind a byte. -/
theorem knife_next {w w1 w3 : World} {base kn r lb x : Nat} {ru : Rl} {p : List Nat} {v v1 : Value} (hk : KnifeHas w base kn r lb ru p v) (hx : x ≤ 255) (hgr : Grew w w1 v v1) (hown1 : w1.ownsRow base 5 1 v1 (p.length + 1) (p.map B8 ++ [.int .u8 (x : Int)]))
    (hr3 : RollHas w3 r lb ru.m 64 (slide (slide (List.replicate 64 0) p) [x])) (ho3 : Only (Own2 r lb) (w1.setCell ⟨kn, 6, none⟩ v1) w3) :
    KnifeHas w3 base kn r lb ru (p ++ [x]) v1 ∧ Only (KnifeS kn r lb v) w w3 ∧ (v1.ownBlock = v.ownBlock ∨ ∃ g, v1.ownBlock = some g ∧ w.heap.size ≤ g) := by
  have hlt := hk.lt
  have hkn := hlt kn (.inl rfl)
  have hr := hlt r (.inr (.inl rfl))
  have hlb := hlt lb (.inr (.inr (.inl rfl)))
  obtain ⟨hrow, hown, hroll, ⟨hf1, hf2, hf3⟩, ⟨ha1, ha2⟩, hb, hby⟩ := hk
  have hfar : v1.ownBlock ≠ some kn ∧ v1.ownBlock ≠ some r ∧ v1.ownBlock ≠ some lb := by
    rcases hgr.own with h | ⟨g, h, hg⟩
    · rw [h]; exact ⟨hf1, hf2, hf3⟩
    · rw [h]
      refine ⟨?_, ?_, ?_⟩ <;> (intro e; injection e with e; omega)
  have hOwn2 : ∀ g, v1.ownBlock = some g → ¬ Own2 r lb g := fun g hg h => by
    rcases h with rfl | rfl
    · exact hfar.2.1 hg
    · exact hfar.2.2 hg
  refine ⟨⟨ho3.row (knife_set (hrow.of_block (hgr.block kn hkn hf1)) v1) (fun h => by rcases h with h | h; exact ha1 h; exact ha2 h), ?_, ?_, hfar, ⟨ha1, ha2⟩, hb, ?_⟩, ?_, hgr.own⟩
  · rw [List.map_append, List.length_append]
    exact own_only (ownsRow_setCell_other hown1 (a := ⟨kn, 6, none⟩) hfar.1 v1) ho3 hOwn2
  · rw [slide_append]; exact hr3
  · intro y hy
    rcases List.mem_append.1 hy with h | h
    · exact hby y h
    · simp at h; omega
  · exact ((hgr.only (KnifeS kn r lb v) (fun g hg => .inr (.inr (.inr hg)))).setCell (p := ⟨kn, 6, none⟩) (.inl rfl) v1).trans (ho3.mono (fun k hk => by
      rcases hk with rfl | rfl
      · exact .inr (.inl rfl)
      · exact .inr (.inr (.inl rfl))))
/-- A byte was taken. -/
def TookByte (w : World) (base kn r lb : Nat) (ru : Rl) (p : List Nat) (v : Value) (b : Bool) (e : Ending) (w' : World) : Prop :=
  ∃ v', e = .returned (.bool b) ∧ KnifeHas w' base kn r lb ru p v' ∧ Only (KnifeS kn r lb v) w w' ∧ (v'.ownBlock = v.ownBlock ∨ ∃ g, v'.ownBlock = some g ∧ w.heap.size ≤ g)

set_option maxHeartbeats 16000000 in
set_option maxRecDepth 100000 in
theorem ends_walk (ru : Rl) (base kn r lb x : Nat) (p : List Nat) (v : Value) (w : World) (hr : ru.Right) (hm : ru.m ≤ 18446744073709551615) (hk : KnifeHas w base kn r lb ru p v) (hx : x ≤ 255) (hl : p.length ≤ 65536) :
    ∃ b : Bool, (b = true ↔ ru.ends (p ++ [x])) ∧ Calls Tryd.prog 48 #[.pointer (some ⟨kn, 0, none⟩), .int .u8 (x : Int)] w (TookByte w base kn r lb ru (p ++ [x]) v b) := by
  obtain ⟨i0, hi, hz0, hz1, hz2⟩ := info_parts info8
  have hk0 := hk
  obtain ⟨hrow, hown, hroll, ⟨hf1, hf2, hf3⟩, ⟨ha1, ha2⟩, ⟨hb1, hb2, hb3⟩, hby⟩ := hk
  have hm0 : ru.m ≠ 0 := Pol.len_pos.1 (by have := hr.deg; omega)
  have hlm : 9 ≤ Pol.len ru.m := by have := hr.deg; omega
  have hbase : base ≤ w.heap.size := by have := hrow.lt; omega
  have c6 : w.cell? ⟨kn, 6, none⟩ = some v := hrow.cell (i := 6) (by omega)
  have HROLL := Lib.hid hroll
  have HROW := Lib.hid hrow
  have HOWN := Lib.hid hown
  have HK := Lib.hid hk0
  have hsum : Hid (Pol.roll ru.m 0 (slide (slide (List.replicate 64 0) p) [x]) = Pol.roll ru.m 0 ((p ++ [x]).drop (p.length + 1 - 64))) := by
    show _ = _
    rw [← slide_append, slide_zeros _ hm0 64 (by omega), List.length_append, List.length_singleton]
  obtain ⟨s, hs⟩ : ∃ s, s = Pol.roll ru.m 0 (slide (slide (List.replicate 64 0) p) [x]) := ⟨_, rfl⟩
  have hs64 : s ≤ 18446744073709551615 := hs ▸ roll_le hm hm0 _
  have hpush := Lib.hid (fun (w1 : World) (u : Value) (hh : RollHas (w1.setCell ⟨kn, 6, none⟩ u) r lb ru.m 64 (slide (List.replicate 64 0) p)) (t : TypeId) => push_one ru.m 64 r lb x t _ (w1.setCell ⟨kn, 6, none⟩ u) hm hlm (by omega) (by omega) hh hx)
  rw [← hs] at hpush hsum
  have hpush : Hid (∀ (w1 : World) (u : Value) (hh : RollHas (w1.setCell ⟨kn, 6, none⟩ u) r lb ru.m 64 (slide (List.replicate 64 0) p)) (t : TypeId),
      Calls Tryd.prog 57 #[.pointer (some ⟨r, 0, none⟩), .slice (some ⟨w1.heap.size, 0, none⟩) 1 1] ((w1.setCell ⟨kn, 6, none⟩ u).alloc (.cells #[.int .u8 (x : Int)] t)) fun e w' => e = .returned (.int .u64 (s : Nat)) ∧ RollHas w' r lb ru.m 64 (slide (slide (List.replicate 64 0) p) [x]) ∧ Only (Own2 r lb) (w1.setCell ⟨kn, 6, none⟩ u) w') := fun w1 u hh t => by
    have h := hpush w1 u hh t
    have e : (w1.setCell ⟨kn, 6, none⟩ u).heap.size = w1.heap.size := by simp [World.setCell]
    rw [e] at h
    exact h
  have hdec : ru.ends (p ++ [x]) ↔ (p.length + 1 = ru.most ∨ ru.least ≤ p.length + 1 ∧ s % 2 ^ ru.bits = 2 ^ ru.bits - 1) := by
    rw [ru.ends_snoc, mask_all, hsum.out]
  have HDEC := Lib.hid hdec
  clear hdec hs hrow hown hroll hk0
  obtain ⟨n, hn⟩ : ∃ n, n = p.length := ⟨_, rfl⟩
  obtain ⟨al, hal⟩ : ∃ al, al = 2 ^ ru.bits - 1 := ⟨_, rfl⟩
  obtain ⟨sm, hsm⟩ : ∃ sm, sm = s % 2 ^ ru.bits := ⟨_, rfl⟩
  have hand : bits .and .u64 (s : Int) (al : Int) = (sm : Int) := by rw [hal, hsm]; exact bits_mask s ru.bits hs64 hr.b20
  rw [← hn, ← hal, ← hsm] at HDEC
  rw [← hn] at HOWN hl
  have HN := Lib.hid hn
  have HAL := Lib.hid hal
  clear hn hal hsm
  have hways : ((n : Int) + 1 = (ru.most : Int)) ∨ (¬ ((n : Int) + 1 = (ru.most : Int)) ∧ ¬ ((ru.least : Int) ≤ (n : Int) + 1)) ∨ (¬ ((n : Int) + 1 = (ru.most : Int)) ∧ ((ru.least : Int) ≤ (n : Int) + 1)) := by omega
  have hgo : ∀ b : Bool, b = (((n : Int) + 1 == (ru.most : Int)) || (decide ((ru.least : Int) ≤ (n : Int) + 1) && ((sm : Int) == (al : Int)))) → Calls Tryd.prog 48 #[.pointer (some ⟨kn, 0, none⟩), .int .u8 (x : Int)] w (TookByte w base kn r lb ru (p ++ [x]) v b) := by
    intro b hb
    rcases hways with h1 | ⟨h1, h2⟩ | ⟨h1, h2⟩
    · obtain ⟨d1, d2⟩ : ((n : Int) + 1 == (ru.most : Int)) = true ∧ ((n : Int) + 1 != (ru.most : Int)) = false := by simp [h1]
      rw [d1, Bool.true_or] at hb
      subst hb
      go_enter Tryd.func48, Tryd.ntmps48
      go_wp2_with (first
        | (at_builtin; go_loud (refine wpList_append_one rfl (.tmp 11) (.tmp 13) 22 rfl base 5 i0 (.int .u8 0) 1 Tryd.underlying22 hi hz0 hz1 hz2 rfl v n _ rfl HOWN.out (.int .u8 (x : Int)) _ _ rfl rfl rfl (by unfold maxLen; omega) (by omega) hbase ?_; intro v1 w1 hown1 hgr hne; obtain ⟨g, cap, rfl⟩ := Go.Joins.ownsRow_form hown1 (by omega); have c16 := (hgr.cell (p := ⟨kn, 6, none⟩) HROW.out.lt hf1).trans c6; have HROW1 := Lib.hid (HROW.out.of_block (hgr.block kn HROW.out.lt hf1)); have z6 := HROW1.out.frozen 6; have c10 : w1.cell? ⟨kn, 0, none⟩ = some (.pointer (some ⟨r, 0, none⟩)) := HROW1.out.cell (i := 0) (by omega); have hR2 := Lib.hid (fun u => (HROLL.out.keep (hgr.block r HROLL.out.lt.1 hf2) (hgr.block lb HROLL.out.lt.2 hf3)).setOther (p := ⟨kn, 6, none⟩) ha1 ha2 u); have HGR := Lib.hid hgr; have HOWN1 := Lib.hid hown1; clear hgr hown1 hne))
        | (go_at_call 57; go_loud ((with_reducible refine (hpush.out _ _ (hR2.out _) _).mono ?_); rintro e w3 ⟨rfl, hr3, ho3⟩; have HNX := Lib.hid (knife_next HK.out hx HGR.out (by rw [← HN.out]; exact HOWN1.out) hr3 ho3); have c30 : w3.cell? ⟨kn, 1, none⟩ = some (.int .i64 ru.least) := HNX.out.1.row.cell (i := 1) (by omega); have c31 : w3.cell? ⟨kn, 2, none⟩ = some (.int .i64 ru.most) := HNX.out.1.row.cell (i := 2) (by omega); have c35 : w3.cell? ⟨kn, 5, none⟩ = some (.int .u64 (al : Int)) := (HNX.out.1.row.cell (i := 5) (by omega)).trans (by rw [HAL.out]; rfl); have c36 : w3.cell? ⟨kn, 6, none⟩ = some (.slice (some ⟨g, 0, none⟩) (n + 1) cap) := HNX.out.1.row.cell (i := 6) (by omega); clear hr3 ho3)))
      go_quiet (fail)
      go_wp2
      go_ret
      exact ⟨_, rfl, HNX.out.1.q ((Q.refl w3).drewN _), HNX.out.2.1.drewN _, HNX.out.2.2⟩
    · obtain ⟨d1, d2⟩ : ((n : Int) + 1 == (ru.most : Int)) = false ∧ ((n : Int) + 1 != (ru.most : Int)) = true := by simp [h1]
      have d3 : decide ((ru.least : Int) ≤ (n : Int) + 1) = false := decide_eq_false h2
      rw [d1, d3, Bool.false_or, Bool.false_and] at hb
      subst hb
      go_enter Tryd.func48, Tryd.ntmps48
      go_wp2_with (first
        | (at_builtin; go_loud (refine wpList_append_one rfl (.tmp 11) (.tmp 13) 22 rfl base 5 i0 (.int .u8 0) 1 Tryd.underlying22 hi hz0 hz1 hz2 rfl v n _ rfl HOWN.out (.int .u8 (x : Int)) _ _ rfl rfl rfl (by unfold maxLen; omega) (by omega) hbase ?_; intro v1 w1 hown1 hgr hne; obtain ⟨g, cap, rfl⟩ := Go.Joins.ownsRow_form hown1 (by omega); have c16 := (hgr.cell (p := ⟨kn, 6, none⟩) HROW.out.lt hf1).trans c6; have HROW1 := Lib.hid (HROW.out.of_block (hgr.block kn HROW.out.lt hf1)); have z6 := HROW1.out.frozen 6; have c10 : w1.cell? ⟨kn, 0, none⟩ = some (.pointer (some ⟨r, 0, none⟩)) := HROW1.out.cell (i := 0) (by omega); have hR2 := Lib.hid (fun u => (HROLL.out.keep (hgr.block r HROLL.out.lt.1 hf2) (hgr.block lb HROLL.out.lt.2 hf3)).setOther (p := ⟨kn, 6, none⟩) ha1 ha2 u); have HGR := Lib.hid hgr; have HOWN1 := Lib.hid hown1; clear hgr hown1 hne))
        | (go_at_call 57; go_loud ((with_reducible refine (hpush.out _ _ (hR2.out _) _).mono ?_); rintro e w3 ⟨rfl, hr3, ho3⟩; have HNX := Lib.hid (knife_next HK.out hx HGR.out (by rw [← HN.out]; exact HOWN1.out) hr3 ho3); have c30 : w3.cell? ⟨kn, 1, none⟩ = some (.int .i64 ru.least) := HNX.out.1.row.cell (i := 1) (by omega); have c31 : w3.cell? ⟨kn, 2, none⟩ = some (.int .i64 ru.most) := HNX.out.1.row.cell (i := 2) (by omega); have c35 : w3.cell? ⟨kn, 5, none⟩ = some (.int .u64 (al : Int)) := (HNX.out.1.row.cell (i := 5) (by omega)).trans (by rw [HAL.out]; rfl); have c36 : w3.cell? ⟨kn, 6, none⟩ = some (.slice (some ⟨g, 0, none⟩) (n + 1) cap) := HNX.out.1.row.cell (i := 6) (by omega); clear hr3 ho3)))
      go_quiet (fail)
      go_wp2
      go_ret
      exact ⟨_, rfl, HNX.out.1.q ((Q.refl w3).drewN _), HNX.out.2.1.drewN _, HNX.out.2.2⟩
    · obtain ⟨d1, d2⟩ : ((n : Int) + 1 == (ru.most : Int)) = false ∧ ((n : Int) + 1 != (ru.most : Int)) = true := by simp [h1]
      have d3 : decide ((ru.least : Int) ≤ (n : Int) + 1) = true := decide_eq_true h2
      rw [d1, d3, Bool.false_or, Bool.true_and] at hb
      subst hb
      go_enter Tryd.func48, Tryd.ntmps48
      go_wp2_with (first
        | (at_builtin; go_loud (refine wpList_append_one rfl (.tmp 11) (.tmp 13) 22 rfl base 5 i0 (.int .u8 0) 1 Tryd.underlying22 hi hz0 hz1 hz2 rfl v n _ rfl HOWN.out (.int .u8 (x : Int)) _ _ rfl rfl rfl (by unfold maxLen; omega) (by omega) hbase ?_; intro v1 w1 hown1 hgr hne; obtain ⟨g, cap, rfl⟩ := Go.Joins.ownsRow_form hown1 (by omega); have c16 := (hgr.cell (p := ⟨kn, 6, none⟩) HROW.out.lt hf1).trans c6; have HROW1 := Lib.hid (HROW.out.of_block (hgr.block kn HROW.out.lt hf1)); have z6 := HROW1.out.frozen 6; have c10 : w1.cell? ⟨kn, 0, none⟩ = some (.pointer (some ⟨r, 0, none⟩)) := HROW1.out.cell (i := 0) (by omega); have hR2 := Lib.hid (fun u => (HROLL.out.keep (hgr.block r HROLL.out.lt.1 hf2) (hgr.block lb HROLL.out.lt.2 hf3)).setOther (p := ⟨kn, 6, none⟩) ha1 ha2 u); have HGR := Lib.hid hgr; have HOWN1 := Lib.hid hown1; clear hgr hown1 hne))
        | (go_at_call 57; go_loud ((with_reducible refine (hpush.out _ _ (hR2.out _) _).mono ?_); rintro e w3 ⟨rfl, hr3, ho3⟩; have HNX := Lib.hid (knife_next HK.out hx HGR.out (by rw [← HN.out]; exact HOWN1.out) hr3 ho3); have c30 : w3.cell? ⟨kn, 1, none⟩ = some (.int .i64 ru.least) := HNX.out.1.row.cell (i := 1) (by omega); have c31 : w3.cell? ⟨kn, 2, none⟩ = some (.int .i64 ru.most) := HNX.out.1.row.cell (i := 2) (by omega); have c35 : w3.cell? ⟨kn, 5, none⟩ = some (.int .u64 (al : Int)) := (HNX.out.1.row.cell (i := 5) (by omega)).trans (by rw [HAL.out]; rfl); have c36 : w3.cell? ⟨kn, 6, none⟩ = some (.slice (some ⟨g, 0, none⟩) (n + 1) cap) := HNX.out.1.row.cell (i := 6) (by omega); clear hr3 ho3)))
      go_quiet (fail)
      go_wp2
      go_ret
      exact ⟨_, rfl, HNX.out.1.q ((Q.refl w3).drewN _), HNX.out.2.1.drewN _, HNX.out.2.2⟩
  refine ⟨_, ?_, hgo _ rfl⟩
  rw [HDEC.out]
  simp only [Bool.or_eq_true, beq_iff_eq, Bool.and_eq_true, decide_eq_true_eq]
  omega
end Go.Proofs.YtcdbffgmgfblkaaDoor
