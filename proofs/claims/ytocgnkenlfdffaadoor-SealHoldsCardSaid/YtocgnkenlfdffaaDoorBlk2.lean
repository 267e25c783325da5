/- blake.turn: one half of a round, lane by lane. -/
import Derived.Test.YtocgnkenlfdffaaDoorBlk1
import Derived.Test.YtocgnkenlfdffaaDoorKit
import Derived.Deep.LoopGhost
import Derived.Deep.RegionHeld3
import Derived.Deep.RegionLaw
import Derived.Handy
import Derived.Deep.DeepCutAuto
import Derived.Deep.CutRange
namespace Go.Proofs.YtocgnkenlfdffaaDoor
open Go.RowKit
/-- a block of 16 words -/
def words (t : TypeId) (V : Nat → Nat) : Obj := .cells ((List.range 16).map fun j => Value.int .u32 (V j)).toArray t
def Blk16 (w : World) (g : Nat) (V : Nat → Nat) : Prop := (∀ j, j < 16 → w.cell? ⟨g, j, none⟩ = some (.int .u32 (V j))) ∧ (∀ j, w.frozen? ⟨g, j, none⟩ = false)
def hexRow (row : List UInt8) : Prop := row.length = 16 ∧ ∀ i (h : i < row.length), 48 ≤ row[i].toNat ∧ row[i].toNat ≤ 57 ∨ 97 ≤ row[i].toNat ∧ row[i].toNat ≤ 102
/-- the word that a row names at a place -/
def dg (M : Nat → Nat) (row : List UInt8) (q : Nat) : Nat := M (hexv (row.getD q 0))
def lix (ap i r : Nat) : Nat := 4 * r + (i + r * ap) % 4
/-- one lane -/
def laneF (M : Nat → Nat) (row : List UInt8) (at_ ap : Nat) (V : Nat → Nat) (i : Nat) : W4 :=
  halfF (halfF ⟨V (lix ap i 0), V (lix ap i 1), V (lix ap i 2), V (lix ap i 3)⟩ (dg M row (at_ + 2 * i)) 16 12) (dg M row (at_ + 2 * i + 1)) 8 7
def upd (V : Nat → Nat) (i x : Nat) : Nat → Nat := fun j => if j = i then x else V j
theorem upd_lt {V : Nat → Nat} {i x : Nat} (hV : ∀ j, V j < 4294967296) (hx : x < 4294967296) : ∀ j, upd V i x j < 4294967296 := by
  intro j; unfold upd; split
  · exact hx
  · exact hV j
def turn1 (M : Nat → Nat) (row : List UInt8) (at_ ap : Nat) (V : Nat → Nat) (i : Nat) : Nat → Nat :=
  upd (upd (upd (upd V (lix ap i 0) (laneF M row at_ ap V i).a) (lix ap i 1) (laneF M row at_ ap V i).b) (lix ap i 2) (laneF M row at_ ap V i).c) (lix ap i 3) (laneF M row at_ ap V i).d
def turnF (M : Nat → Nat) (row : List UInt8) (at_ ap : Nat) (V : Nat → Nat) : Nat → Nat → Nat
  | 0 => V
  | i + 1 => turn1 M row at_ ap (turnF M row at_ ap V i) i
theorem laneF_ok (M : Nat → Nat) (row : List UInt8) (at_ ap : Nat) (V : Nat → Nat) (i : Nat) (hV : ∀ j, V j < 4294967296) : (laneF M row at_ ap V i).ok :=
  halfF_ok _ _ _ _ (halfF_ok _ _ _ _ ⟨hV _, hV _, hV _, hV _⟩ (by omega) (by omega)) (by omega) (by omega)
theorem turn1_lt (M : Nat → Nat) (row : List UInt8) (at_ ap : Nat) (V : Nat → Nat) (i : Nat) (hV : ∀ j, V j < 4294967296) : ∀ j, turn1 M row at_ ap V i j < 4294967296 := by
  obtain ⟨h1, h2, h3, h4⟩ := laneF_ok M row at_ ap V i hV
  exact upd_lt (upd_lt (upd_lt (upd_lt hV h1) h2) h3) h4
theorem turnF_lt (M : Nat → Nat) (row : List UInt8) (at_ ap : Nat) (V : Nat → Nat) (hV : ∀ j, V j < 4294967296) : ∀ i j, turnF M row at_ ap V i j < 4294967296 := by
  intro i
  induction i with
  | zero => exact hV
  | succ i ih => exact turn1_lt M row at_ ap _ i ih
theorem Blk16.only {w w' : World} {g : Nat} {V : Nat → Nat} {S : Nat → Prop} (h : Blk16 w g V) (ho : Only S w w') (hg : g < w.heap.size) (hs : ¬ S g) : Blk16 w' g V :=
  ⟨fun j hj => (ho.cell (p := ⟨g, j, none⟩) hg hs).trans (h.1 j hj), fun j => (ho.frozen (p := ⟨g, j, none⟩) hg hs).trans (h.2 j)⟩
theorem Blk16.set {w : World} {g : Nat} {V : Nat → Nat} (h : Blk16 w g V) {i : Nat} (_hi : i < 16) (x : Nat) : Blk16 (w.setCell ⟨g, i, none⟩ (.int .u32 x)) g (upd V i x) := by
  refine ⟨fun j hj => ?_, fun j => by rw [World.frozen?_setCell]; exact h.2 j⟩
  unfold upd
  by_cases e : j = i
  · subst e; rw [if_pos rfl]; exact set_same (h.1 j hj)
  · rw [if_neg e, set_off (fun e' => e e'.symm)]; exact h.1 j hj
theorem Blk16.drew {w : World} {g : Nat} {V : Nat → Nat} (h : Blk16 w g V) : Blk16 w.drew g V := h
theorem turn_step {w : World} {g : Nat} {U M : Nat → Nat} {row : List UInt8} {at_ ap k La Lb Lc Ld : Nat} (h : Blk16 w g U) (hL : laneF M row at_ ap U k = ⟨La, Lb, Lc, Ld⟩) :
    Blk16 ((((w.setCell ⟨g, k % 4, none⟩ (.int .u32 La)).setCell ⟨g, 4 + (k + ap) % 4, none⟩ (.int .u32 Lb)).setCell ⟨g, 8 + (k + 2 * ap) % 4, none⟩ (.int .u32 Lc)).setCell ⟨g, 12 + (k + 3 * ap) % 4, none⟩ (.int .u32 Ld)).drew.drew.drew.drew g (turn1 M row at_ ap U k) := by
  have h4 := ((((h.set (i := k % 4) (by omega) La).set (i := 4 + (k + ap) % 4) (by omega) Lb).set (i := 8 + (k + 2 * ap) % 4) (by omega) Lc).set (i := 12 + (k + 3 * ap) % 4) (by omega) Ld)
  have e : turn1 M row at_ ap U k = upd (upd (upd (upd U (k % 4) La) (4 + (k + ap) % 4) Lb) (8 + (k + 2 * ap) % 4) Lc) (12 + (k + 3 * ap) % 4) Ld := by
    unfold turn1; rw [hL]; simp [lix]
  rw [e]
  exact h4.drew.drew.drew.drew
theorem Blk16.lt {w : World} {g : Nat} {V : Nat → Nat} (h : Blk16 w g V) : g < w.heap.size := World.block_lt_of_cell? w ⟨g, 0, none⟩ (h.1 0 (by omega))
set_option maxHeartbeats 4000000 in
theorem turn_any (gv gm : Nat) (V M : Nat → Nat) (row : List UInt8) (at_ ap : Nat) (w : World) (hrow : hexRow row) (hat : at_ ≤ 8) (hap : ap ≤ 1)
    (hV : ∀ j, V j < 4294967296) (hv : Blk16 w gv V) (hm : Blk16 w gm M) (hgm : gm < w.heap.size) (hne : gv ≠ gm) :
    Calls Tryd.prog 99 #[.pointer (some ⟨gv, 0, none⟩), .pointer (some ⟨gm, 0, none⟩), .string ⟨row.toArray⟩, .int .i64 at_, .int .i64 ap] w
      fun e w' => e = .returned (.tuple #[]) ∧ Only (fun b => b = gv) w w' ∧ Blk16 w' gv (turnF M row at_ ap V 4) := by
  go_enter Tryd.func99, Tryd.ntmps99
  go_wp2_with fail
  go_loopw [14] (fun i wr => ∃ k : Nat, k ≤ 4 ∧ i = .int .i64 k ∧ Blk16 wr gv (turnF M row at_ ap V k) ∧ Only (fun b => b = gv) w wr) (fun i _ => 4 - (intOf i).toNat)
  case atStart => exact ⟨0, by omega, rfl, hv, Only.refl _ _⟩
  case round =>
    obtain ⟨k, hk, rfl, hvr, hor⟩ := hrel
    have hmr := hm.only hor hgm (fun e => hne e.symm)
    have hVk := turnF_lt M row at_ ap V hV k
    have hV4 := Lib.hid (rfl : turnF M row at_ ap V (k + 1) = turn1 M row at_ ap (turnF M row at_ ap V k) k)
    generalize hU : turnF M row at_ ap V k = U at *
    have HU := Lib.hid hU; clear hU
    by_cases hlt : k < 4
    · have hv0 := hvr.1 (0 + (k + 0 * ap) % 4) (by omega)
      have hv1 := hvr.1 (4 + (k + 1 * ap) % 4) (by omega)
      have hv2 := hvr.1 (8 + (k + 2 * ap) % 4) (by omega)
      have hv3 := hvr.1 (12 + (k + 3 * ap) % 4) (by omega)
      simp only [Nat.zero_add, Nat.zero_mul, Nat.one_mul, Nat.add_zero] at hv0 hv1 hv2 hv3
      have hgr : gv < wr.heap.size := World.block_lt_of_cell? wr ⟨gv, 0, none⟩ (hvr.1 0 (by omega))
      have hgr2 : gm < wr.heap.size := World.block_lt_of_cell? wr ⟨gm, 0, none⟩ (hmr.1 0 (by omega))
      have HR := Lib.hid hrow
      have HV := Lib.hid hVk
      have HO := Lib.hid hor
      have HVR := Lib.hid hvr
      have hne' : gm ≠ gv := fun e => hne e.symm
      clear hrow hV hv hm hvr hVk hor
      go_wp2_with fail
      go_rounds 5
      have hl0 := cell_of_row (wr.alloc (.cells #[Value.int .u32 (U (k % 4)), Value.int .u32 (U (4 + (k + ap) % 4)), Value.int .u32 (U (8 + (k + 2 * ap) % 4)), Value.int .u32 (U (12 + (k + 3 * ap) % 4))] 215)) wr.heap.size 0 _ _ _ (heap_alloc_new wr _)
      have hl1 := cell_of_row (wr.alloc (.cells #[Value.int .u32 (U (k % 4)), Value.int .u32 (U (4 + (k + ap) % 4)), Value.int .u32 (U (8 + (k + 2 * ap) % 4)), Value.int .u32 (U (12 + (k + 3 * ap) % 4))] 215)) wr.heap.size 1 _ _ _ (heap_alloc_new wr _)
      have hl2 := cell_of_row (wr.alloc (.cells #[Value.int .u32 (U (k % 4)), Value.int .u32 (U (4 + (k + ap) % 4)), Value.int .u32 (U (8 + (k + 2 * ap) % 4)), Value.int .u32 (U (12 + (k + 3 * ap) % 4))] 215)) wr.heap.size 2 _ _ _ (heap_alloc_new wr _)
      have hl3 := cell_of_row (wr.alloc (.cells #[Value.int .u32 (U (k % 4)), Value.int .u32 (U (4 + (k + ap) % 4)), Value.int .u32 (U (8 + (k + 2 * ap) % 4)), Value.int .u32 (U (12 + (k + 3 * ap) % 4))] 215)) wr.heap.size 3 _ _ _ (heap_alloc_new wr _)
      have hf0 : (wr.alloc (.cells #[Value.int .u32 (U (k % 4)), Value.int .u32 (U (4 + (k + ap) % 4)), Value.int .u32 (U (8 + (k + 2 * ap) % 4)), Value.int .u32 (U (12 + (k + 3 * ap) % 4))] 215)).frozen? ⟨wr.heap.size, 0, none⟩ = false := frozen_new _ _ _ _
      have hf1 : (wr.alloc (.cells #[Value.int .u32 (U (k % 4)), Value.int .u32 (U (4 + (k + ap) % 4)), Value.int .u32 (U (8 + (k + 2 * ap) % 4)), Value.int .u32 (U (12 + (k + 3 * ap) % 4))] 215)).frozen? ⟨wr.heap.size, 1, none⟩ = false := frozen_new _ _ _ _
      have hf2 : (wr.alloc (.cells #[Value.int .u32 (U (k % 4)), Value.int .u32 (U (4 + (k + ap) % 4)), Value.int .u32 (U (8 + (k + 2 * ap) % 4)), Value.int .u32 (U (12 + (k + 3 * ap) % 4))] 215)).frozen? ⟨wr.heap.size, 2, none⟩ = false := frozen_new _ _ _ _
      have hf3 : (wr.alloc (.cells #[Value.int .u32 (U (k % 4)), Value.int .u32 (U (4 + (k + ap) % 4)), Value.int .u32 (U (8 + (k + 2 * ap) % 4)), Value.int .u32 (U (12 + (k + 3 * ap) % 4))] 215)).frozen? ⟨wr.heap.size, 3, none⟩ = false := frozen_new _ _ _ _
      have hbW := (Below.refl wr.heap.size wr).alloc (Nat.le_refl _) (.cells #[Value.int .u32 (U (k % 4)), Value.int .u32 (U (4 + (k + ap) % 4)), Value.int .u32 (U (8 + (k + 2 * ap) % 4)), Value.int .u32 (U (12 + (k + 3 * ap) % 4))] 215)
      have hsz : (wr.alloc (.cells #[Value.int .u32 (U (k % 4)), Value.int .u32 (U (4 + (k + ap) % 4)), Value.int .u32 (U (8 + (k + 2 * ap) % 4)), Value.int .u32 (U (12 + (k + 3 * ap) % 4))] 215)).heap.size = wr.heap.size + 1 := by simp
      generalize wr.alloc (.cells #[Value.int .u32 (U (k % 4)), Value.int .u32 (U (4 + (k + ap) % 4)), Value.int .u32 (U (8 + (k + 2 * ap) % 4)), Value.int .u32 (U (12 + (k + 3 * ap) % 4))] 215) = W at *
      simp only [List.getElem?_toArray, List.getElem?_cons_zero, List.getElem?_cons_succ] at hl0 hl1 hl2 hl3
      have hlt1 : wr.heap.size < W.heap.size := by omega
      have HS := Lib.hid hsz; clear hsz
      have hmW : Blk16 W gm M := ⟨fun j hj => (hbW.cell (p := ⟨gm, j, none⟩) hgr2).trans (hmr.1 j hj), fun j => (hbW.frozen (p := ⟨gm, j, none⟩) hgr2).trans (hmr.2 j)⟩
      have HM := Lib.hid hmW
      clear hv0 hv1 hv2 hv3 hmW hmr
      generalize hL : wr.heap.size = lb at *
      have HL := Lib.hid hL; clear hL
      generalize ha : U (k % 4) = a at *; have HA := Lib.hid ha; clear ha
      generalize hb : U (4 + (k + ap) % 4) = b at *; have HB := Lib.hid hb; clear hb
      generalize hc : U (8 + (k + 2 * ap) % 4) = c at *; have HC := Lib.hid hc; clear hc
      generalize hd : U (12 + (k + 3 * ap) % 4) = d at *; have HD := Lib.hid hd; clear hd
      have hdig : ∀ (q : Int) (w2 : World), 0 ≤ q → q < 16 → Below W.heap.size W w2 → Calls Tryd.prog 111 #[.pointer (some ⟨gm, 0, none⟩), .string ⟨row.toArray⟩, .int .i64 q] w2 fun e w' => e = .returned (.int .u32 (dg M row q.toNat)) ∧ w2 = w' := by
        intro q w2 hq0 hq1 hb2
        have hn2 : q.toNat < row.length := by rw [HR.out.1]; omega
        have h := digit_at gm M row q q.toNat (by omega) w2 hn2 HR.out.2 (fun j hj => (hb2.cell (p := ⟨gm, j, none⟩) (by show gm < _; omega)).trans (HM.out.1 j hj))
        unfold dg
        rw [show row.getD q.toNat 0 = row[q.toNat] from by simp [hn2]]
        exact h
      have HDIG := Lib.hid hdig; clear hdig
      have hq1 : 0 ≤ IntKind.i64.wrap (↑at_ + IntKind.i64.wrap (2 * ↑k)) ∧ IntKind.i64.wrap (↑at_ + IntKind.i64.wrap (2 * ↑k)) < 16 := by
        rw [IntWalk.i64_in (2 * (k : Int)) (by omega), IntWalk.i64_in _ (by omega)]; omega
      have hq2 : 0 ≤ IntKind.i64.wrap (IntKind.i64.wrap (↑at_ + IntKind.i64.wrap (2 * ↑k)) + 1) ∧ IntKind.i64.wrap (IntKind.i64.wrap (↑at_ + IntKind.i64.wrap (2 * ↑k)) + 1) < 16 := by
        rw [IntWalk.i64_in (2 * (k : Int)) (by omega), IntWalk.i64_in ((at_ : Int) + 2 * k) (by omega), IntWalk.i64_in _ (by omega)]; omega
      have HQ1 := Lib.hid hq1; clear hq1
      have HQ2 := Lib.hid hq2; clear hq2
      have HL4 : Hid (W4.ok ⟨a, b, c, d⟩) := by rw [← HA.out, ← HB.out, ← HC.out, ← HD.out]; exact ⟨HV.out _, HV.out _, HV.out _, HV.out _⟩
      go_wp2_with fail
      obtain ⟨La, Lb, Lc, Ld, hLane⟩ : ∃ p q r s, laneF M row at_ ap U k = ⟨p, q, r, s⟩ := ⟨_, _, _, _, rfl⟩
      have HLane := Lib.hid hLane; clear hLane
      go_cut [] from 35 to 52 (fun wx => wx.cell? ⟨lb, 0, none⟩ = some (.int .u32 La) ∧ wx.cell? ⟨lb, 1, none⟩ = some (.int .u32 Lb) ∧ wx.cell? ⟨lb, 2, none⟩ = some (.int .u32 Lc) ∧ wx.cell? ⟨lb, 3, none⟩ = some (.int .u32 Ld) ∧ Below lb wr wx ∧ lb < wx.heap.size)
      case first =>
        have hd0 : Below W.heap.size W W.drew := (Below.refl _ _).drew
        go_region_law (first | (go_simp; go_at_call 111; refine (HDIG.out _ _ ?_ ?_ ?_).mono ?_; (first | exact HQ1.out.1 | exact HQ2.out.1); (first | exact HQ1.out.2 | exact HQ2.out.2); assumption; rintro e w' ⟨rfl, rfl⟩) | (go_simp; go_at_call 110; ((with_reducible refine (half_16v a b c d _ _ HL4.out).mono ?_); rintro e wh ⟨rfl, hbh⟩; have hbX := hd0.trans (hbh.mono (by simp)))) | (go_simp; go_at_call 110; ((with_reducible refine (half_8w _ _ _ ?_).mono ?_); exact halfF_ok _ _ _ _ HL4.out (by omega) (by omega); rintro e wh2 ⟨rfl, hbh2⟩; have hbY := hbX.trans (hbh2.mono hbX.size); have hk0 := (hbY.cell (p := ⟨lb, 0, none⟩) hlt1).trans hl0; have hk1 := (hbY.cell (p := ⟨lb, 1, none⟩) hlt1).trans hl1; have hk2 := (hbY.cell (p := ⟨lb, 2, none⟩) hlt1).trans hl2; have hk3 := (hbY.cell (p := ⟨lb, 3, none⟩) hlt1).trans hl3; have hg0 := (hbY.frozen (p := ⟨lb, 0, none⟩) hlt1).trans hf0; have hg1 := (hbY.frozen (p := ⟨lb, 1, none⟩) hlt1).trans hf1; have hg2 := (hbY.frozen (p := ⟨lb, 2, none⟩) hlt1).trans hf2; have hg3 := (hbY.frozen (p := ⟨lb, 3, none⟩) hlt1).trans hf3)))

        all_goals
          have hX : (IntKind.i64.wrap (↑at_ + IntKind.i64.wrap (2 * ↑k))).toNat = at_ + 2 * k := by
            rw [IntWalk.i64_in (2 * (k : Int)) (by omega), IntWalk.i64_in _ (by omega)]; omega
          have hY : (IntKind.i64.wrap (IntKind.i64.wrap (↑at_ + IntKind.i64.wrap (2 * ↑k)) + 1)).toNat = at_ + 2 * k + 1 := by
            rw [IntWalk.i64_in (2 * (k : Int)) (by omega), IntWalk.i64_in ((at_ : Int) + 2 * k) (by omega), IntWalk.i64_in _ (by omega)]; omega
          rw [hX, hY]
          clear hX hY
          generalize hL2 : halfF (halfF { a := a, b := b, c := c, d := d } (dg M row (at_ + 2 * k)) 16 12) (dg M row (at_ + 2 * k + 1)) 8 7 = L at *
          have hLL : laneF M row at_ ap U k = L := by
            rw [← hL2, ← HA.out, ← HB.out, ← HC.out, ← HD.out]; simp [laneF, lix]
          rw [HLane.out] at hLL
          subst hLL
          clear hL2

          go_wp2_with fail
          go_meet
          have h4 := set4 (x := .int .u32 La) (y := .int .u32 Lb) (z := .int .u32 Lc) (u := .int .u32 Ld) hk0 hk1 hk2 hk3
          refine ⟨h4.1, h4.2.1, h4.2.2.1, h4.2.2.2, ?_, ?_⟩
          · exact (((((hbW.trans (hbY.mono (by omega))).setCell (by exact Nat.le_refl _) _).setCell (by exact Nat.le_refl _) _).setCell (by exact Nat.le_refl _) _).setCell (by exact Nat.le_refl _) _)
          · have := hbY.size; simp [World.setCell]; omega
      case rest =>
        obtain ⟨hl0, hl1, hl2, hl3, hbW2, hlt2⟩ := hcut
        have hp0 := (hbW2.cell (p := ⟨gv, k % 4, none⟩) hgr).trans (HVR.out.1 _ (by omega))
        have hp1 := (hbW2.cell (p := ⟨gv, 4 + (k + ap) % 4, none⟩) hgr).trans (HVR.out.1 _ (by omega))
        have hp2 := (hbW2.cell (p := ⟨gv, 8 + (k + 2 * ap) % 4, none⟩) hgr).trans (HVR.out.1 _ (by omega))
        have hp3 := (hbW2.cell (p := ⟨gv, 12 + (k + 3 * ap) % 4, none⟩) hgr).trans (HVR.out.1 _ (by omega))
        have hz0 := (hbW2.frozen (p := ⟨gv, k % 4, none⟩) hgr).trans (HVR.out.2 _)
        have hz1 := (hbW2.frozen (p := ⟨gv, 4 + (k + ap) % 4, none⟩) hgr).trans (HVR.out.2 _)
        have hz2 := (hbW2.frozen (p := ⟨gv, 8 + (k + 2 * ap) % 4, none⟩) hgr).trans (HVR.out.2 _)
        have hz3 := (hbW2.frozen (p := ⟨gv, 12 + (k + 3 * ap) % 4, none⟩) hgr).trans (HVR.out.2 _)
        have hgl : gv ≠ lb := by omega
        go_wp2_with fail
        refine wp_loop_rounds 5 ?_
        rw [rounds_succ]; go_wp2_with fail
        go_region
        go_wp2_with fail
        rw [rounds_succ]; go_wp2_with fail
        go_region
        go_wp2_with fail
        rw [rounds_succ]; go_wp2_with fail
        go_region
        go_wp2_with fail
        rw [rounds_succ]; go_wp2_with fail
        go_region
        go_wp2_with fail
        rw [rounds_succ]; go_wp2_with fail
        have hbk : Blk16 wc gv U := ⟨fun j hj => (hbW2.cell (p := ⟨gv, j, none⟩) hgr).trans (HVR.out.1 j hj), fun j => (hbW2.frozen (p := ⟨gv, j, none⟩) hgr).trans (HVR.out.2 j)⟩
        refine ⟨⟨k + 1, by omega, by go_num, ?_, ?_⟩, by simp [intOf]; omega⟩
        · have := turn_step hbk HLane.out
          rw [← HU.out] at this
          rw [← HU.out] at hbk
          exact this
        · have ho := (HO.out.addBelow hbW2 (by have := HO.out.size; rw [HL.out] at this; exact this))
          exact ((((ho.setCell (p := ⟨gv, _, none⟩) (.inl rfl) _).setCell (p := ⟨gv, _, none⟩) (.inl rfl) _).setCell (p := ⟨gv, _, none⟩) (.inl rfl) _).setCell (p := ⟨gv, _, none⟩) (.inl rfl) _).drew.drew.drew.drew
    · have h4 : k = 4 := by omega
      subst h4
      have HV4 := Lib.hid hvr
      have HO := Lib.hid hor
      clear hrow hV hv hm hvr hVk hmr hor
      go_wp2_with fail
      go_end0
      exact ⟨rfl, HO.out, by rw [HU.out]; exact HV4.out⟩
end Go.Proofs.YtocgnkenlfdffaaDoor
