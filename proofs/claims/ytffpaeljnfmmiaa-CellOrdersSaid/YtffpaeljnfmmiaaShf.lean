/- The store in memory, and the functions that only read it or spend its power. -/
import Derived.Test.YtffpaeljnfmmiaaStep
import Derived.Test.YtffpaeljnfmmiaaSto
import Derived.Test.YtffpaeljnfmmiaaProg
import Derived.Maps.OwnSet
namespace Go.Proofs.Ytffpaeljnfmmiaa
set_option linter.unusedVariables false
set_option linter.unusedSimpArgs false
open Go.RowKit Go.Maps

def heldR (v : Value) : Option (DataW Value × List MemPlace) := some (.held v, [])
theorem keyS : Keyed Try.prog 9 := string_keyed Try.underlying9
/-- The power: how many changes more, is it gone, how many were made. -/
structure Pw where
  left : Int
  off : Bool
  made : Nat
def Pw.spend (p : Pw) : Pw := if p.off = true ∨ p.left = 0 then { p with off := true } else { left := if p.left > 0 then p.left - 1 else p.left, off := false, made := p.made + 1 }
def Pw.bad (p : Pw) : Prop := p.off = true ∨ p.left = 0
def Pw.ok (p : Pw) : Prop := -1 ≤ p.left ∧ p.left ≤ 9223372036854775807 ∧ p.made ≤ 1000000
def shF (mb : Nat) (p : Pw) (room : Int) (i : Nat) : Value :=
  match i with
  | 0 => .map (some mb)
  | 1 => .int .i64 p.left
  | 2 => .bool p.off
  | 3 => .int .i64 (p.made : Int)
  | _ => .int .i64 room
/-- The store in block s, its map in block mb. -/
structure ShHas (w : World) (s mb n : Nat) (D : DataW Value) (p : Pw) (room : Int) : Prop where
  row : w.rowIs s 47 5 (shF mb p room)
  map : w.ownsMap Try.prog 9 heldR mb n D
  ne : mb ≠ s
section
variable {w w1 w' : World} {s mb n : Nat} {D : DataW Value} {p : Pw} {room : Int} {S : Nat → Prop}
theorem ShHas.lt (h : ShHas w s mb n D p room) : s < w.heap.size := h.row.lt
theorem ShHas.ltm (h : ShHas w s mb n D p room) : mb < w.heap.size := h.map.lt
theorem ShHas.c0 (h : ShHas w s mb n D p room) : w.cell? ⟨s, 0, none⟩ = some (.map (some mb)) := h.row.cell (i := 0) (by omega)
theorem ShHas.c1 (h : ShHas w s mb n D p room) : w.cell? ⟨s, 1, none⟩ = some (.int .i64 p.left) := h.row.cell (i := 1) (by omega)
theorem ShHas.c2 (h : ShHas w s mb n D p room) : w.cell? ⟨s, 2, none⟩ = some (.bool p.off) := h.row.cell (i := 2) (by omega)
theorem ShHas.c3 (h : ShHas w s mb n D p room) : w.cell? ⟨s, 3, none⟩ = some (.int .i64 (p.made : Int)) := h.row.cell (i := 3) (by omega)
theorem ShHas.c4 (h : ShHas w s mb n D p room) : w.cell? ⟨s, 4, none⟩ = some (.int .i64 room) := h.row.cell (i := 4) (by omega)
theorem ShHas.fr (h : ShHas w s mb n D p room) (i : Nat) : w.frozen? ⟨s, i, none⟩ = false := h.row.frozen i
theorem own_only (h : w.ownsMap Try.prog 9 heldR mb n D) (ho : Only S w w') (hm : ¬ S mb) : w'.ownsMap Try.prog 9 heldR mb n D := by
  have hl := h.lt
  obtain ⟨es, clock, hb, r⟩ := h
  exact ⟨es, clock, (ho.block mb hl hm).trans hb, r⟩
theorem ShHas.only (h : ShHas w s mb n D p room) (ho : Only S w w') (hs : ¬ S s) (hm : ¬ S mb) : ShHas w' s mb n D p room := ⟨ho.row h.row hs, own_only h.map ho hm, h.ne⟩
theorem ShHas.q (h : ShHas w s mb n D p room) (hq : Q w w') : ShHas w' s mb n D p room := h.only (S := fun _ => False) (Only.of_q hq) id id
theorem ShHas.left_ (h : ShHas w s mb n D p room) (x : Int) : ShHas (w.setCell ⟨s, 1, none⟩ (.int .i64 x)) s mb n D { p with left := x } room := by
  refine ⟨(h.row.set 1 _).congr (fun i hi => ?_), h.map.setCell (fun e => h.ne e) _, h.ne⟩
  match i, hi with
  | 0, _ => rfl
  | 1, _ => rfl
  | 2, _ => rfl
  | 3, _ => rfl
  | 4, _ => rfl
theorem ShHas.off_ (h : ShHas w s mb n D p room) (x : Bool) : ShHas (w.setCell ⟨s, 2, none⟩ (.bool x)) s mb n D { p with off := x } room := by
  refine ⟨(h.row.set 2 _).congr (fun i hi => ?_), h.map.setCell (fun e => h.ne e) _, h.ne⟩
  match i, hi with
  | 0, _ => rfl
  | 1, _ => rfl
  | 2, _ => rfl
  | 3, _ => rfl
  | 4, _ => rfl
theorem ShHas.made_ (h : ShHas w s mb n D p room) (x : Nat) : ShHas (w.setCell ⟨s, 3, none⟩ (.int .i64 (x : Int))) s mb n D { p with made := x } room := by
  refine ⟨(h.row.set 3 _).congr (fun i hi => ?_), h.map.setCell (fun e => h.ne e) _, h.ne⟩
  match i, hi with
  | 0, _ => rfl
  | 1, _ => rfl
  | 2, _ => rfl
  | 3, _ => rfl
  | 4, _ => rfl
end
/-- What a call leaves that turns the store's block alone, and hands back r. -/
def ShDone (w : World) (s mb n : Nat) (D : DataW Value) (p : Pw) (room : Int) (r : Value) (e : Ending) (w' : World) : Prop := e = .returned r ∧ ShHas w' s mb n D p room ∧ Only (fun k => k = s) w w'
theorem only_set (w : World) (g i : Nat) (v : Value) : Only (fun k => k = g) w (w.setCell ⟨g, i, none⟩ v) := (Only.refl (fun k => k = g) w).setCell (p := ⟨g, i, none⟩) rfl v

set_option maxHeartbeats 4000000 in
set_option maxRecDepth 100000 in
theorem spend_bad (s mb n : Nat) (D : DataW Value) (p : Pw) (room : Int) (w : World) (h : ShHas w s mb n D p room) (hb : p.bad) :
    Calls Try.prog 25 #[.pointer (some ⟨s, 1, none⟩)] w (ShDone w s mb n D { p with off := true } room (.int .i64 9)) := by
  have c1 := h.c1
  have c2 := h.c2
  have z2 := h.fr 2
  have HO := Lib.hid (h.off_ true)
  clear h
  obtain ⟨l, o, m⟩ := p
  cases o
  · have hl : l = 0 := by rcases hb with hb | hb; · cases hb
                          · exact hb
    subst hl
    clear hb
    go_enter Try.func25, Try.ntmps25
    go_wp2
    go_ret
    exact ⟨rfl, HO.out, only_set _ _ _ _⟩
  · clear hb
    go_enter Try.func25, Try.ntmps25
    go_wp2
    go_ret
    exact ⟨rfl, HO.out, only_set _ _ _ _⟩
set_option maxHeartbeats 4000000 in
set_option maxRecDepth 100000 in
theorem spend_good (s mb n : Nat) (D : DataW Value) (p : Pw) (room : Int) (w : World) (h : ShHas w s mb n D p room) (hb : ¬ p.bad) (hp : p.ok) :
    Calls Try.prog 25 #[.pointer (some ⟨s, 1, none⟩)] w (ShDone w s mb n D p.spend room (.int .i64 0)) := by
  have c1 := h.c1
  have c2 := h.c2
  have c3 := h.c3
  have z1 := h.fr 1
  have z3 := h.fr 3
  have HO := Lib.hid h
  clear h
  have hsp : p.spend = { left := if p.left > 0 then p.left - 1 else p.left, off := false, made := p.made + 1 } := if_neg hb
  rw [hsp]
  obtain ⟨l, o, m⟩ := p
  obtain ⟨hp1, hp2, hp3⟩ := hp
  have ho : o = false := by cases o; rfl; exact absurd (Or.inl rfl) hb
  have hl : l ≠ 0 := fun e => hb (Or.inr e)
  subst ho
  simp only at hp1 hp2 hp3 c1 c2 c3
  clear hb hsp
  have hd0 : (l == 0) = false := beq_eq_false_iff_ne.2 hl
  have w3 : wrap64 ((m : Int) + 1) = ((m + 1 : Nat) : Int) := by unfold wrap64; omega
  by_cases hpos : l > 0
  · rw [if_pos hpos]
    have w1 : wrap64 (l - 1) = l - 1 := by unfold wrap64; omega
    have hgt : decide (0 < l) = true := decide_eq_true hpos
    have c3' : (w.setCell ⟨s, 1, none⟩ (.int .i64 (l - 1))).cell? ⟨s, 3, none⟩ = some (.int .i64 (m : Int)) := (HO.out.left_ (l - 1)).c3
    have z3' := (HO.out.left_ (l - 1)).fr 3
    go_enter Try.func25, Try.ntmps25
    go_wp2
    go_ret
    exact ⟨rfl, (HO.out.left_ _).made_ _, (only_set _ _ _ _).trans (only_set _ _ _ _)⟩
  · rw [if_neg hpos]
    have hgt : decide (0 < l) = false := decide_eq_false hpos
    go_enter Try.func25, Try.ntmps25
    go_wp2
    go_ret
    exact ⟨rfl, HO.out.made_ _, only_set _ _ _ _⟩

set_option maxHeartbeats 4000000 in
theorem look_ok (s mb n : Nat) (D : DataW Value) (p : Pw) (room : Int) (w : World) (h : ShHas w s mb n D p room) :
    Calls Try.prog 23 #[.pointer (some ⟨s, 0, none⟩)] w fun e w' => e = .returned (.int .i64 (if p.off then 9 else 0)) ∧ w' = w := by
  have c2 := h.c2
  clear h
  obtain ⟨l, o, m⟩ := p
  simp only at c2
  cases o
  · go_enter Try.func23, Try.ntmps23
    go_wp2
    go_ret
    exact ⟨rfl, rfl⟩
  · go_enter Try.func23, Try.ntmps23
    go_wp2
    go_ret
    exact ⟨rfl, rfl⟩
end Go.Proofs.Ytffpaeljnfmmiaa
