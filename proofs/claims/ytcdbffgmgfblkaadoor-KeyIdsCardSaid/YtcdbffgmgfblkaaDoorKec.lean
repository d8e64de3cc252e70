/- The walk through key's Make. -/
import Derived.Test.YtcdbffgmgfblkaaDoorKeb
import Derived.Test.YtcdbffgmgfblkaaDoorKea
namespace Go.Proofs.YtcdbffgmgfblkaaDoor
set_option linter.unusedVariables false
set_option linter.unusedSimpArgs false
open Go.RowKit

/-- A ring's cells. -/
def ringC (h m n : List Nat) : Array Value := arrO h ++ arrO m ++ arrO n
def ringF (h m n : List Nat) (i : Nat) : Value := if i < 32 then arrF h i else if i < 64 then arrF m (i - 32) else arrF n (i - 64)
theorem arrO_size (L : List Nat) : (arrO L).size = 32 := by simp [arrO]
theorem arrO_get (L : List Nat) {i : Nat} (hi : i < 32) : (arrO L)[i]? = some (arrF L i) := by simp [arrO, hi]
theorem ringC_size (h m n : List Nat) : (ringC h m n).size = 96 := by unfold ringC; rw [Array.size_append, Array.size_append, arrO_size, arrO_size, arrO_size]
theorem ringC_get (h m n : List Nat) (i : Nat) (hi : i < 96) : (ringC h m n)[i]? = some (ringF h m n i) := by
  unfold ringC ringF
  by_cases h1 : i < 64
  · rw [Array.getElem?_append_left (by rw [Array.size_append, arrO_size, arrO_size]; exact h1)]
    by_cases h2 : i < 32
    · rw [Array.getElem?_append_left (by rw [arrO_size]; exact h2), if_pos h2, arrO_get h h2]
    · rw [Array.getElem?_append_right (by rw [arrO_size]; omega), if_neg h2, if_pos h1, arrO_size, arrO_get m (by omega)]
  · rw [Array.getElem?_append_right (by rw [Array.size_append, arrO_size, arrO_size]; omega), if_neg (by omega), if_neg h1, Array.size_append, arrO_size, arrO_size, arrO_get n (by omega)]
theorem ring_agg (h m n : List Nat) : AggIs (.agg (ringC h m n)) 96 (ringF h m n) := ⟨_, rfl, ringC_size h m n, ringC_get h m n⟩
theorem ring_one (h m n : List Nat) (i : Nat) : (ringF h m n i).oneCell' = true := by unfold ringF; split; rfl; split <;> rfl
def Z32 : List Nat := List.replicate 32 0
theorem zeroR (w : World) : (zeroValue 46).run Tryd.prog w = .ok (.agg (ringC Z32 Z32 Z32)) w := by kernel_rfl
theorem zeroK (w : World) : (zeroValue 44).run Tryd.prog w = .ok (.agg (arrO Z32 ++ arrO Z32)) w := by kernel_rfl
theorem info96 : (Tryd.prog.info? 46).map (·.size) = some 96 := by kernel_rfl

set_option maxRecDepth 100000 in
theorem placesKeys (w : World) (fields : Array Field) (h : Tryd.prog.underlying 44 = some (.struct fields)) : (fields.mapM (fun f => (do pure (f.offset, ← sizeOf f.type) : Sem (Nat × Nat)))).run Tryd.prog w = .ok #[(0, 32), (32, 32)] w := by
  rw [Tryd.underlying44] at h
  injection h with h
  injection h with h
  subst h
  kernel_rfl
set_option maxRecDepth 100000 in
theorem placesRing (w : World) (fields : Array Field) (h : Tryd.prog.underlying 46 = some (.struct fields)) : (fields.mapM (fun f => (do pure (f.offset, ← sizeOf f.type) : Sem (Nat × Nat)))).run Tryd.prog w = .ok #[(0, 64), (64, 32)] w := by
  rw [Tryd.underlying46] at h
  injection h with h
  injection h with h
  subst h
  kernel_rfl
theorem fillKeys (h m : List Nat) : Instr.fill (fun i => (#[(0, 32), (32, 32)] : Array (Nat × Nat))[i]?) (Value.agg (arrO Z32 ++ arrO Z32)).cells [(0, .agg (arrO h)), (1, .agg (arrO m))] = some (arrO h ++ arrO m) := by kernel_rfl
theorem fillRing (h m n : List Nat) : Instr.fill (fun i => (#[(0, 64), (64, 32)] : Array (Nat × Nat))[i]?) (Value.agg (ringC Z32 Z32 Z32)).cells [(0, .agg (arrO h ++ arrO m)), (1, .agg (arrO n))] = some (ringC h m n) := by kernel_rfl

set_option maxHeartbeats 8000000 in
set_option maxRecDepth 100000 in
theorem make_ok (A : Option Addr) (n c : Nat) (W : List Nat) (A2 : Option Addr) (m c2 : Nat) (S : List Nat) (t : Int) (T : Nat) (w : World) (hG : Glob w) (hW : W.length = n) (hsW : SeesP w (· < w.heap.size) A (W.map B8)) (hbW : ∀ x ∈ W, x ≤ 255) (hA : A = none → c = 0) (hn : n ≤ 1000) (hS : S.length = m) (hsS : SeesP w (· < w.heap.size) A2 (S.map B8)) (hbS : ∀ x ∈ S, x ≤ 255)
    (h1 : n ≠ 0) (h2 : m = 16) (h3 : 0 ≤ t) (h4 : t ≤ 100000) (hT : t = (T : Int)) :
    Calls Tryd.prog 27 #[.slice A n c, .slice A2 m c2, .int .i64 t] w fun e w' => e = .returned (.tuple #[.agg (ringC (hmac (stretch W S T) hideB) (hmac (stretch W S T) markB) (hmac (stretch W S T) nameB)), .int .i64 0]) ∧ Hid (Q w w') := by
  subst hT h2
  have HG := Lib.hid hG
  have HST := Lib.hid (fun wx (hq : Q w wx) => stretch_ok A n c W A2 16 c2 S (T : Int) T wx (hG.q hq) hW (SeesP.on hsW hq) hbW hA (by omega) hS (SeesP.on hsS hq) hbS (by omega) (by omega))
  have HXL := Lib.hid (stretch_len W S T)
  have HXB := Lib.hid (stretch_byte W S T)
  clear hG hW hsW hbW hA hS hsS hbS
  have d1 : ((n : Int) == 0) = false := beq_eq_false_iff_ne.2 (by omega)
  have d3 : decide ((T : Int) < 0) = false := by rw [decide_eq_false_iff_not]; omega
  have d4 : decide ((100000 : Int) < (T : Int)) = false := by rw [decide_eq_false_iff_not]; omega
  generalize stretch W S T = X at *
  have HM1 : Hid (∀ (U : List Nat) g wx, Q w wx → wx.rowIs g 28 32 (arrF X) → (∀ x ∈ U, x ≤ 255) → U.length ≤ 1000 → Calls Tryd.prog 43 #[.string (strB U), .pointer (some ⟨g, 0, none⟩)] wx fun e w' => e = .returned (.agg (arrO (hmac X U))) ∧ Hid (Q wx w')) := fun U g wx hq hr h1 h2 => make1_ok g X U wx (HG.out.q hq) HXL.out HXB.out h1 h2 hr
  have HMC : Hid (∀ g wx, Q w wx → wx.rowIs g 28 32 (arrF X) → (Calls Tryd.prog 43 #[.string ⟨#[104, 105, 100, 101]⟩, .pointer (some ⟨g, 0, none⟩)] wx fun e w' => e = .returned (.agg (arrO (hmac X hideB))) ∧ Hid (Q wx w')) ∧ (Calls Tryd.prog 43 #[.string ⟨#[109, 97, 114, 107]⟩, .pointer (some ⟨g, 0, none⟩)] wx fun e w' => e = .returned (.agg (arrO (hmac X markB))) ∧ Hid (Q wx w')) ∧ (Calls Tryd.prog 43 #[.string ⟨#[110, 97, 109, 101]⟩, .pointer (some ⟨g, 0, none⟩)] wx fun e w' => e = .returned (.agg (arrO (hmac X nameB))) ∧ Hid (Q wx w'))) := fun g wx hq hr => ⟨HM1.out hideB g wx hq hr (by decide) (by decide), HM1.out markB g wx hq hr (by decide) (by decide), HM1.out nameB g wx hq hr (by decide) (by decide)⟩
  generalize hmac X hideB = XH at *
  generalize hmac X markB = XM at *
  generalize hmac X nameB = XN at *
  go_enter Tryd.func27, Tryd.ntmps27
  go_wp2_with (first
    | (refine gate 6 rfl ?_; go_loud (refine wpList_alloc_row rfl 46 rfl _ (zeroR _) 96 (ringF Z32 Z32 Z32) (ringC_size _ _ _) (ringC_get _ _ _) ?_; intro w1 hr1 hx1; have H1 : Hid (w1.rowIs w.heap.size 46 96 (ringF Z32 Z32 Z32) ∧ Q w w1) := ⟨hr1, hx1.q (Q.refl _)⟩; clear hr1 hx1))
    | (go_at_call 22; (with_reducible refine (HST.out w1 H1.out.2).mono ?_); rintro e w2 ⟨rfl, H2⟩)
    | (refine gate 8 rfl ?_; go_loud (refine wpList_alloc_row rfl 28 rfl _ (zero32 _) 32 _ rfl zer32_get ?_; intro w3 hr3 hx3; have H3 := Lib.hid (And.intro hr3 hx3); clear hr3 hx3))
    | (refine wpList_store_all rfl 28 (.tmp 8) (.tmp 30) rfl w2.heap.size rfl _ rfl 32 info32b _ (arrO_agg X) (fun i _ => rfl) 28 _ H3.out.1 ?_; intro w4 hr4 hp4; have H4 : Hid (w4.rowIs w2.heap.size 28 32 (arrF X) ∧ Q w1 w4) := ⟨hr4, hp4.q (H3.out.2.q H2.out) H2.out.size⟩; clear hr4 hp4; have HQ4 : Hid (Q w w4) := H1.out.2.trans' H4.out.2)
    | (go_at_call 43; first
        | ((with_reducible refine (HMC.out w2.heap.size w4 HQ4.out H4.out.1).1.mono ?_); rintro e w5 ⟨rfl, H5⟩; have HQ5 : Hid (Q w w5) := HQ4.out.trans' H5.out; have HR5 : Hid (w5.rowIs w2.heap.size 28 32 (arrF X)) := row_q H5.out H4.out.1)
        | ((with_reducible refine (HMC.out w2.heap.size w5 HQ5.out HR5.out).2.1.mono ?_); rintro e w6 ⟨rfl, H6⟩; have HQ6 : Hid (Q w w6) := HQ5.out.trans' H6.out; have HR6 : Hid (w6.rowIs w2.heap.size 28 32 (arrF X)) := row_q H6.out HR5.out)
        | ((with_reducible refine (HMC.out w2.heap.size w6 HQ6.out HR6.out).2.2.mono ?_); rintro e w7 ⟨rfl, H7⟩; have HQ7 : Hid (Q w1 w7) := H4.out.2.trans' (H5.out.trans' (H6.out.trans' H7.out))))
    | (refine gate 36 rfl ?_; go_loud (refine wpList_build_struct rfl 44 _ rfl _ (zeroK _) _ Tryd.underlying44 _ (placesKeys _ _ Tryd.underlying44) [(0, .agg (arrO XH)), (1, .agg (arrO XM))] rfl (arrO XH ++ arrO XM) (fillKeys XH XM) ?_))
    | (refine gate 39 rfl ?_; go_loud (refine wpList_build_struct rfl 46 _ rfl _ (zeroR _) _ Tryd.underlying46 _ (placesRing _ _ Tryd.underlying46) [(0, .agg (arrO XH ++ arrO XM)), (1, .agg (arrO XN))] rfl (ringC XH XM XN) (fillRing XH XM XN) ?_))
    | (refine wpList_store_all rfl 46 (.tmp 6) (.tmp 39) rfl w.heap.size rfl _ rfl 96 info96 _ (ring_agg XH XM XN) (fun i _ => ring_one _ _ _ i) 46 _ (row_q HQ7.out H1.out.1) ?_; intro w8 hr8 hp8; have H8 := Lib.hid (And.intro hr8 hp8); clear hr8 hp8))
  refine ret_cell_tmp rfl w.heap.size rfl _ Tryd.underlying46 rfl 96 info96 (ringF XH XM XN) (row_cells H8.out.1) rfl (fun v hv => ⟨?_, H8.out.2.q (H1.out.2.trans' HQ7.out) (Nat.le_refl _)⟩)
  rw [AggIs.unique hv (ring_agg XH XM XN)]; rfl
end Go.Proofs.YtcdbffgmgfblkaaDoor
