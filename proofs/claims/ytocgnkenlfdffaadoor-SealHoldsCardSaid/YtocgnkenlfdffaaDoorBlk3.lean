/- blake's block. -/
import Derived.Test.YtocgnkenlfdffaaDoorBlk2
namespace Go.Proofs.YtocgnkenlfdffaaDoor
open Go.RowKit
/-- an array of bytes as a value -/
def bytesV (l : List UInt8) : Array Value := (l.map fun c => Value.int .u8 c.toNat).toArray
/-- the words of the first k bytes -/
def mF (l : List UInt8) : Nat → Nat → Nat
  | 0 => fun _ => 0
  | k + 1 => upd (mF l k) (k / 4) (mF l k (k / 4) ||| (l.getD k 0).toNat * 2 ^ (8 * (k % 4)))
theorem byte_sh (c : UInt8) (k : Nat) : c.toNat * 2 ^ (8 * (k % 4)) < 4294967296 := by
  have h1 : c.toNat < 256 := UInt8.toNat_lt _
  have h2 : k % 4 = 0 ∨ k % 4 = 1 ∨ k % 4 = 2 ∨ k % 4 = 3 := by omega
  rcases h2 with h | h | h | h <;> rw [h] <;> omega
theorem mF_lt (l : List UInt8) : ∀ k j, mF l k j < 4294967296 := by
  intro k
  induction k with
  | zero => intro j; exact Nat.zero_lt_succ _
  | succ k ih => exact upd_lt ih (or_lt (ih _) (byte_sh _ _))
theorem byte_or (l : List UInt8) (k : Nat) : bits .or .u32 ((mF l k (k / 4) : Nat) : Int) ((((l.getD k 0).toNat : Nat) : Int) * 2 ^ (8 * (k % 4)) % 4294967296) = ((mF l k (k / 4) ||| (l.getD k 0).toNat * 2 ^ (8 * (k % 4)) : Nat) : Int) := by
  have h := byte_sh (l.getD k 0) k
  have e : (((l.getD k 0).toNat : Nat) : Int) * 2 ^ (8 * (k % 4)) % 4294967296 = (((l.getD k 0).toNat * 2 ^ (8 * (k % 4)) : Nat) : Int) := by
    have : (((l.getD k 0).toNat : Nat) : Int) * 2 ^ (8 * (k % 4)) = (((l.getD k 0).toNat * 2 ^ (8 * (k % 4)) : Nat) : Int) := by push_cast; rfl
    rw [this]; omega
  rw [e, u32_or _ _ (mF_lt l k _) h]
/-- a state: eight words, and how many bytes there were -/
def St (w : World) (g : Nat) (H : Nat → Nat) (t : Nat) : Prop := (∀ j, j < 8 → w.cell? ⟨g, j, none⟩ = some (.int .u32 (H j))) ∧ w.cell? ⟨g, 8, none⟩ = some (.int .u64 t) ∧ ∀ j, w.frozen? ⟨g, j, none⟩ = false
theorem St.below {w w' : World} {g B t : Nat} {H : Nat → Nat} (h : St w g H t) (hb : Below B w w') (hg : g < B) : St w' g H t :=
  ⟨fun j hj => (hb.cell (p := ⟨g, j, none⟩) hg).trans (h.1 j hj), (hb.cell (p := ⟨g, 8, none⟩) hg).trans h.2.1, fun j => (hb.frozen (p := ⟨g, j, none⟩) hg).trans (h.2.2 j)⟩
def ivL : List Nat := [1779033703, 3144134277, 1013904242, 2773480762, 1359893119, 2600822924, 528734635, 1541459225]
def iv (j : Nat) : Nat := ivL.getD j 0
def rowL : List (List UInt8) := [
  [48, 49, 50, 51, 52, 53, 54, 55, 56, 57, 97, 98, 99, 100, 101, 102],
  [101, 97, 52, 56, 57, 102, 100, 54, 49, 99, 48, 50, 98, 55, 53, 51],
  [98, 56, 99, 48, 53, 50, 102, 100, 97, 101, 51, 54, 55, 49, 57, 52],
  [55, 57, 51, 49, 100, 99, 98, 101, 50, 54, 53, 97, 52, 48, 102, 56],
  [57, 48, 53, 55, 50, 52, 97, 102, 101, 49, 98, 99, 54, 56, 51, 100],
  [50, 99, 54, 97, 48, 98, 56, 51, 52, 100, 55, 53, 102, 101, 49, 57],
  [99, 53, 49, 102, 101, 100, 52, 97, 48, 55, 54, 51, 57, 50, 56, 98],
  [100, 98, 55, 101, 99, 49, 51, 57, 53, 48, 102, 52, 56, 54, 50, 97],
  [54, 102, 101, 57, 98, 51, 48, 56, 99, 50, 100, 55, 49, 52, 97, 53],
  [97, 50, 56, 52, 55, 54, 49, 53, 102, 98, 57, 101, 51, 99, 100, 48]]
def rowN (r : Nat) : List UInt8 := rowL.getD r []
theorem rowL_hex : ∀ r : Fin 10, (rowN r.val).length = 16 ∧ ∀ i : Fin 16, 48 ≤ ((rowN r.val).getD i.val 0).toNat ∧ ((rowN r.val).getD i.val 0).toNat ≤ 57 ∨ 97 ≤ ((rowN r.val).getD i.val 0).toNat ∧ ((rowN r.val).getD i.val 0).toNat ≤ 102 := by decide +kernel
theorem rowN_hex (r : Nat) (h : r < 10) : hexRow (rowN r) := by
  obtain ⟨h1, h2⟩ := rowL_hex ⟨r, h⟩
  refine ⟨h1, fun i hi => ?_⟩
  have h3 := h2 ⟨i, by dsimp only at h1; omega⟩
  have e : (rowN r).getD i 0 = (rowN r)[i] := by simp [hi]
  dsimp only at h3
  rw [e] at h3
  exact h3
def ivV : Array Value := (ivL.map fun x : Nat => Value.int .u32 (x : Int)).toArray
def rowsV : Array Value := (rowL.map fun x => Value.string ⟨x.toArray⟩).toArray
theorem iv_at (j : Nat) (h : j < 8) : ivV[j]? = some (.int .u32 (iv j)) := by
  have : j < ivL.length := h
  simp [ivV, iv, this]
theorem rows_at (j : Nat) (h : j < 10) : rowsV[j]? = some (.string ⟨(rowN j).toArray⟩) := by
  have : j < rowL.length := h
  simp [rowsV, rowN, this]
/-- the sixteen words of a block's work, being laid -/
def vF (H : Nat → Nat) : Nat → Nat → Nat
  | 0 => fun _ => 0
  | k + 1 => upd (upd (vF H k) (k / 4 * 4 + k % 4) (H k)) ((2 + k / 4) * 4 + k % 4) (iv k)
theorem St.only {w w' : World} {g t : Nat} {H : Nat → Nat} {S : Nat → Prop} (h : St w g H t) (ho : Only S w w') (hg : g < w.heap.size) (hs : ¬ S g) : St w' g H t :=
  ⟨fun j hj => (ho.cell (p := ⟨g, j, none⟩) hg hs).trans (h.1 j hj), (ho.cell (p := ⟨g, 8, none⟩) hg hs).trans h.2.1, fun j => (ho.frozen (p := ⟨g, j, none⟩) hg hs).trans (h.2.2 j)⟩
theorem iv_lt (j : Nat) : iv j < 4294967296 := by
  by_cases h : j < 8
  · have : ∀ i : Fin 8, iv i.val < 4294967296 := by decide +kernel
    exact this ⟨j, h⟩
  · have : ivL.length ≤ j := by show 8 ≤ j; omega
    simp [iv, List.getD, this]
theorem vF_lt (H : Nat → Nat) (hH : ∀ j, H j < 4294967296) : ∀ k j, vF H k j < 4294967296 := by
  intro k
  induction k with
  | zero => intro j; exact Nat.zero_lt_succ _
  | succ k ih => exact upd_lt (upd_lt ih (hH k)) (iv_lt k)
def v0F (V : Nat → Nat) (T : Nat) (last : Bool) : Nat → Nat :=
  if last then upd (upd (upd V 12 (V 12 ^^^ T % 4294967296)) 13 (V 13 ^^^ T / 4294967296)) 14 (4294967295 ^^^ V 14)
  else upd (upd V 12 (V 12 ^^^ T % 4294967296)) 13 (V 13 ^^^ T / 4294967296)
theorem v0F_lt (V : Nat → Nat) (T : Nat) (last : Bool) (hV : ∀ j, V j < 4294967296) (hT : T < 18446744073709551616) : ∀ j, v0F V T last j < 4294967296 := by
  have h := upd_lt (i := 13) (upd_lt (i := 12) hV (xor_lt (hV 12) (show T % 4294967296 < 4294967296 by omega))) (xor_lt (hV 13) (show T / 4294967296 < 4294967296 by omega))
  unfold v0F
  cases last
  · exact h
  · exact upd_lt h (xor_lt (by omega) (hV 14))
/-- ten rounds -/
def roundsF (M V : Nat → Nat) : Nat → Nat → Nat
  | 0 => V
  | k + 1 => turnF M (rowN k) 8 1 (turnF M (rowN k) 0 0 (roundsF M V k) 4) 4
theorem roundsF_lt (M V : Nat → Nat) (hV : ∀ j, V j < 4294967296) : ∀ k j, roundsF M V k j < 4294967296 := by
  intro k
  induction k with
  | zero => exact hV
  | succ k ih => exact turnF_lt _ _ _ _ _ (turnF_lt _ _ _ _ _ ih 4) 4
def hF (H V : Nat → Nat) : Nat → Nat → Nat
  | 0 => H
  | k + 1 => upd (hF H V k) k (hF H V k k ^^^ (V (k / 4 * 4 + k % 4) ^^^ V ((2 + k / 4) * 4 + k % 4)))
theorem hF_lt (H V : Nat → Nat) (hH : ∀ j, H j < 4294967296) (hV : ∀ j, V j < 4294967296) : ∀ k j, hF H V k j < 4294967296 := by
  intro k
  induction k with
  | zero => exact hH
  | succ k ih => exact upd_lt ih (xor_lt (ih k) (xor_lt (hV _) (hV _)))
/-- the state behind a block -/
def blockF (H : Nat → Nat) (T : Nat) (last : Bool) (l : List UInt8) : Nat → Nat := hF H (roundsF (mF l 64) (v0F (vF H 8) T last) 10) 8
theorem blockF_lt (H : Nat → Nat) (T : Nat) (last : Bool) (l : List UInt8) (hH : ∀ j, H j < 4294967296) (hT : T < 18446744073709551616) : ∀ j, blockF H T last l j < 4294967296 :=
  hF_lt _ _ hH (roundsF_lt _ _ (v0F_lt _ _ _ (vF_lt H hH 8) hT) 10) 8
theorem not_32 (x : Nat) (h : x < 4294967296) : bits .xor .u32 (if IntKind.u32.signed = true then -1 else IntKind.u32.max) (x : Int) = ((4294967295 ^^^ x : Nat) : Int) := by
  have e : (if IntKind.u32.signed = true then (-1 : Int) else IntKind.u32.max) = ((4294967295 : Nat) : Int) := by decide +kernel
  rw [e, u32_xor _ _ (by omega) h]
theorem low_32 (V T c : Nat) (h : V < 4294967296) : bits .xor .u32 (V : Int) (((T : Int) + c) % 4294967296) = ((V ^^^ (T + c) % 4294967296 : Nat) : Int) := by
  have e : ((T : Int) + c) % 4294967296 = (((T + c) % 4294967296 : Nat) : Int) := by omega
  rw [e, u32_xor _ _ h (by omega)]
theorem high_32 (V T c : Nat) (h : V < 4294967296) (hT : T + c < 18446744073709551616) : bits .xor .u32 (V : Int) (((T : Int) + c) / 4294967296) = ((V ^^^ (T + c) / 4294967296 : Nat) : Int) := by
  have e : ((T : Int) + c) / 4294967296 = (((T + c) / 4294967296 : Nat) : Int) := by omega
  rw [e, u32_xor _ _ h (by omega)]
theorem turn_00 (gv gm : Nat) (V M : Nat → Nat) (row : List UInt8) (w : World) (hrow : hexRow row) (hV : ∀ j, V j < 4294967296) (hv : Blk16 w gv V) (hm : Blk16 w gm M) (hgm : gm < w.heap.size) (hne : gv ≠ gm) :
    Calls Tryd.prog 99 #[.pointer (some ⟨gv, 0, none⟩), .pointer (some ⟨gm, 0, none⟩), .string ⟨row.toArray⟩, .int .i64 0, .int .i64 0] w
      fun e w' => e = .returned (.tuple #[]) ∧ Only (fun b => b = gv) w w' ∧ Blk16 w' gv (turnF M row 0 0 V 4) := turn_any gv gm V M row 0 0 w hrow (by omega) (by omega) hV hv hm hgm hne
theorem turn_81 (gv gm : Nat) (V M : Nat → Nat) (row : List UInt8) (w : World) (hrow : hexRow row) (hV : ∀ j, V j < 4294967296) (hv : Blk16 w gv V) (hm : Blk16 w gm M) (hgm : gm < w.heap.size) (hne : gv ≠ gm) :
    Calls Tryd.prog 99 #[.pointer (some ⟨gv, 0, none⟩), .pointer (some ⟨gm, 0, none⟩), .string ⟨row.toArray⟩, .int .i64 8, .int .i64 1] w
      fun e w' => e = .returned (.tuple #[]) ∧ Only (fun b => b = gv) w w' ∧ Blk16 w' gv (turnF M row 8 1 V 4) := turn_any gv gm V M row 8 1 w hrow (by omega) (by omega) hV hv hm hgm hne
theorem St.set {w : World} {g t k : Nat} {H : Nat → Nat} (h : St w g H t) (hk : k < 8) (x : Nat) : St (w.setCell ⟨g, k, none⟩ (.int .u32 x)) g (upd H k x) t := by
  refine ⟨fun j hj => ?_, ?_, fun j => by rw [World.frozen?_setCell]; exact h.2.2 j⟩
  · unfold upd
    by_cases e : j = k
    · subst e; rw [if_pos rfl]; exact set_same (h.1 j hj)
    · rw [if_neg e, set_off (fun e' => e e'.symm)]; exact h.1 j hj
  · rw [set_off (by omega)]; exact h.2.1
theorem St.drew {w : World} {g t : Nat} {H : Nat → Nat} (h : St w g H t) : St w.drew g H t := h
theorem bytesV_at (l : List UInt8) (k : Nat) (h : k < l.length) : (bytesV l)[k]? = some (.int .u8 (l.getD k 0).toNat) := by
  simp [bytesV, h]
theorem bytesV_size (l : List UInt8) : (bytesV l).size = l.length := by simp [bytesV]
theorem Blk16.new (w : World) (t : TypeId) : Blk16 (w.alloc (.cells #[.int .u32 0, .int .u32 0, .int .u32 0, .int .u32 0, .int .u32 0, .int .u32 0, .int .u32 0, .int .u32 0, .int .u32 0, .int .u32 0, .int .u32 0, .int .u32 0, .int .u32 0, .int .u32 0, .int .u32 0, .int .u32 0] t)) w.heap.size (fun _ => 0) := by
  refine ⟨fun j hj => ?_, fun j => frozen_new _ _ _ _⟩
  rw [cell_new]
  match j, hj with
  | 0, _ => rfl
  | 1, _ => rfl
  | 2, _ => rfl
  | 3, _ => rfl
  | 4, _ => rfl
  | 5, _ => rfl
  | 6, _ => rfl
  | 7, _ => rfl
  | 8, _ => rfl
  | 9, _ => rfl
  | 10, _ => rfl
  | 11, _ => rfl
  | 12, _ => rfl
  | 13, _ => rfl
  | 14, _ => rfl
  | 15, _ => rfl
  | n + 16, h => exact absurd h (by omega)
set_option maxRecDepth 100000 in
set_option maxHeartbeats 4000000 in
theorem block_any (gs : Nat) (l : List UInt8) (count : Nat) (last : Bool) (H : Nat → Nat) (t : Nat) (w : World) (hl : l.length = 64) (hH : ∀ j, H j < 4294967296) (hs : St w gs H t) (hgs : gs < w.heap.size) (hg8 : 8 ≤ gs) (hiv : Gl w 0 ivV) (hrw : Gl w 1 rowsV) (hct : t + count < 18446744073709551616) :
    Calls Tryd.prog 87 #[.pointer (some ⟨gs, 0, none⟩), .agg (bytesV l), .int .i64 count, .bool last] w
      fun e w' => e = .returned (.tuple #[]) ∧ Only (fun b => b = gs) w w' ∧ St w' gs (blockF H (t + count) last l) (t + count) := by
  go_enter Tryd.func87, Tryd.ntmps87
  go_wp2_with (refine wpList_load_row rfl 180 _ rfl w.heap.size rfl 180 (bytesV l) (0, 0) _ (heap_alloc2_old w _ _) Tryd.underlying180 rfl (by rw [bytesV_size, hl]; kernel_rfl) ?_)
  have hmz := Blk16.new (w.alloc (.cells (bytesV l) 180)) 199
  rw [World.size_alloc] at hmz
  have hbW := ((Below.refl w.heap.size w).alloc (Nat.le_refl _) (.cells (bytesV l) 180)).alloc (by simp) (.cells #[.int .u32 0, .int .u32 0, .int .u32 0, .int .u32 0, .int .u32 0, .int .u32 0, .int .u32 0, .int .u32 0, .int .u32 0, .int .u32 0, .int .u32 0, .int .u32 0, .int .u32 0, .int .u32 0, .int .u32 0, .int .u32 0] 199)
  generalize hW : ((w.alloc (.cells (bytesV l) 180)).alloc _) = W at hmz hbW ⊢
  clear hW
  go_loopw [17] (fun i wr => ∃ k : Nat, k ≤ 64 ∧ i = .int .i64 k ∧ Blk16 wr (w.heap.size + 1) (mF l k) ∧ Below w.heap.size w wr) (fun i _ => 64 - (intOf i).toNat)
  case atStart => exact ⟨0, by omega, rfl, hmz, hbW⟩
  case round =>
    obtain ⟨k, hk, rfl, hmk, hbk⟩ := hrel
    by_cases hlt : k < 64
    · have hix := fun wx => run_index_arr (P := Tryd.prog) 180 5 64 (bytesV l) .i64 k hlt Tryd.underlying180 _ Tryd.underlying5 rfl (by kernel_rfl) _ (bytesV_at l k (by omega)) wx
      have hc := hmk.1 (k / 4) (by omega)
      have hf := hmk.2 (k / 4)
      have HM := Lib.hid hmk; have HB := Lib.hid hbk
      clear hmk hbk hmz hbW
      have hcl : l[k].toNat < 256 := UInt8.toNat_lt _
      go_wp2_with fail
      go_region
      go_wp2_with fail
      have hor := byte_or l k
      rw [show l.getD k 0 = l[k] from by simp [hl, hlt]] at hor
      rw [hor]
      refine ⟨⟨k + 1, by omega, by go_num, ?_, (HB.out.setCell (by show w.heap.size ≤ w.heap.size + 1; omega) _).drew⟩, by simp [intOf]; omega⟩
      have h2 := (HM.out.set (i := k / 4) (by omega) (mF l k (k / 4) ||| l[k].toNat * 2 ^ (8 * (k % 4)))).drew
      rw [show mF l (k + 1) = upd (mF l k) (k / 4) (mF l k (k / 4) ||| l[k].toNat * 2 ^ (8 * (k % 4))) from by simp [mF, hl, hlt]]
      exact h2
    · have h64 : k = 64 := by omega
      subst h64
      have hs2 := hs.below hbk hgs
      have hs8 := hs2.2.1
      have hfz := hs2.2.2 8
      clear hs hmz hbW
      have HM := Lib.hid hmk; have HB := Lib.hid hbk; have HST := Lib.hid hs2
      clear hmk hbk hs2
      go_wp2_with fail
      have hW2 : ∀ (v : Value), Only (fun b => b = gs) w ((wr.setCell ⟨gs, 8, none⟩ v).alloc (.cells #[.int .u32 0, .int .u32 0, .int .u32 0, .int .u32 0, .int .u32 0, .int .u32 0, .int .u32 0, .int .u32 0, .int .u32 0, .int .u32 0, .int .u32 0, .int .u32 0, .int .u32 0, .int .u32 0, .int .u32 0, .int .u32 0] 201)) :=
        fun v => (((Only.of_below HB.out).mono (fun (k : Nat) (hk : k < w.heap.size) (hw : w.heap.size ≤ k) => absurd hw (by omega))).setCell (S := fun b => b = gs) (p := ⟨gs, 8, none⟩) (.inl rfl) v).alloc _
      have hO2 := hW2 (.int .u64 (↑t + ↑count))
      have hV2 := Blk16.new (wr.setCell ⟨gs, 8, none⟩ (.int .u64 (↑t + ↑count))) 201
      have hgv : w.heap.size + 1 < wr.heap.size := HM.out.lt
      have hsz : (wr.setCell ⟨gs, 8, none⟩ (.int .u64 (↑t + ↑count))).heap.size = wr.heap.size := by simp [World.setCell]
      rw [hsz] at hV2
      have hOs : Only (fun b => b = gs) wr ((wr.setCell ⟨gs, 8, none⟩ (.int .u64 (↑t + ↑count))).alloc (.cells #[.int .u32 0, .int .u32 0, .int .u32 0, .int .u32 0, .int .u32 0, .int .u32 0, .int .u32 0, .int .u32 0, .int .u32 0, .int .u32 0, .int .u32 0, .int .u32 0, .int .u32 0, .int .u32 0, .int .u32 0, .int .u32 0] 201)) := ((Only.refl (fun b => b = gs) wr).setCell (S := fun b => b = gs) (p := ⟨gs, 8, none⟩) (.inl rfl) _).alloc _
      have hM2 := HM.out.only hOs HM.out.lt (show ¬ w.heap.size + 1 = gs by omega)
      have hlt2 : wr.heap.size < ((wr.setCell ⟨gs, 8, none⟩ (.int .u64 (↑t + ↑count))).alloc (.cells #[.int .u32 0, .int .u32 0, .int .u32 0, .int .u32 0, .int .u32 0, .int .u32 0, .int .u32 0, .int .u32 0, .int .u32 0, .int .u32 0, .int .u32 0, .int .u32 0, .int .u32 0, .int .u32 0, .int .u32 0, .int .u32 0] 201)).heap.size := by simp [World.setCell]
      have hS2 : St ((wr.setCell ⟨gs, 8, none⟩ (.int .u64 (↑t + ↑count))).alloc (.cells #[.int .u32 0, .int .u32 0, .int .u32 0, .int .u32 0, .int .u32 0, .int .u32 0, .int .u32 0, .int .u32 0, .int .u32 0, .int .u32 0, .int .u32 0, .int .u32 0, .int .u32 0, .int .u32 0, .int .u32 0, .int .u32 0] 201)) gs H (t + count) := by
        have hb : Below wr.heap.size (wr.setCell ⟨gs, 8, none⟩ (.int .u64 (↑t + ↑count))) ((wr.setCell ⟨gs, 8, none⟩ (.int .u64 (↑t + ↑count))).alloc (.cells #[.int .u32 0, .int .u32 0, .int .u32 0, .int .u32 0, .int .u32 0, .int .u32 0, .int .u32 0, .int .u32 0, .int .u32 0, .int .u32 0, .int .u32 0, .int .u32 0, .int .u32 0, .int .u32 0, .int .u32 0, .int .u32 0] 201)) := (Below.refl _ _).alloc (by rw [hsz]; exact Nat.le_refl _) _
        refine St.below (w := wr.setCell ⟨gs, 8, none⟩ (.int .u64 (↑t + ↑count))) ⟨fun j hj => ?_, ?_, fun j => ?_⟩ hb (by omega)
        · rw [set_off (by omega)]; exact HST.out.1 j hj
        · rw [set_same HST.out.2.1]; push_cast; rfl
        · rw [World.frozen?_setCell]; exact HST.out.2.2 j
      generalize (wr.setCell ⟨gs, 8, none⟩ (.int .u64 (↑t + ↑count))).alloc _ = W2 at hO2 hV2 hM2 hlt2 hS2 ⊢
      generalize wr.heap.size = gv at hgv hV2 hlt2 ⊢
      clear hW2 hsz hOs hs8 hfz HM HB HST
      have hiv2 := hiv.only hO2 (by show ¬ _ = gs; omega)
      have hrw2 := hrw.only hO2 (by show ¬ _ = gs; omega)
      have hgm2 : w.heap.size + 1 < W2.heap.size := by omega
      have hgs2 : gs < W2.heap.size := by omega
      go_loopw [43] (fun i wr => ∃ k : Nat, k ≤ 8 ∧ i = .int .i64 k ∧ Blk16 wr gv (vF H k) ∧ Only (fun b => b = gv) W2 wr) (fun i _ => 8 - (intOf i).toNat)
      case atStart => exact ⟨0, by omega, rfl, hV2, Only.refl _ _⟩
      case round =>
        obtain ⟨k, hk8, rfl, hvk, hok⟩ := hrel
        have hSk : St wr gs H (t + count) := hS2.only hok hgs2 (by show ¬ gs = gv; omega)
        by_cases hlt3 : k < 8
        · have hc0 := hvk.1 (k / 4 * 4 + k % 4) (by omega)
          have hc1 := hvk.1 ((2 + k / 4) * 4 + k % 4) (by omega)
          have hz0 := hvk.2 (k / 4 * 4 + k % 4)
          have hz1 := hvk.2 ((2 + k / 4) * 4 + k % 4)
          have hsk := hSk.1 k hlt3
          have hgk := ((hiv2.only hok (by show ¬ _ = gv; omega)).cell k).trans (iv_at k hlt3)
          have HV := Lib.hid hvk; have HO := Lib.hid hok
          clear hvk hok hSk hV2 hM2 hS2 hiv2 hrw2 hO2 hiv hrw
          go_wp2_with fail
          go_region
          go_wp2_with fail
          refine ⟨⟨k + 1, by omega, by go_num, ?_, ((HO.out.setCell (S := fun b => b = gv) (p := ⟨gv, _, none⟩) (.inl rfl) _).setCell (S := fun b => b = gv) (p := ⟨gv, _, none⟩) (.inl rfl) _).drew⟩, by simp [intOf]; omega⟩
          exact ((HV.out.set (i := k / 4 * 4 + k % 4) (by omega) (H k)).set (i := (2 + k / 4) * 4 + k % 4) (by omega) (iv k)).drew
        · have h8 : k = 8 := by omega
          subst h8
          have hVlt := vF_lt H hH 8
          generalize hV8 : vF H 8 = V at *
          have HV8 := Lib.hid hV8; clear hV8
          have hc12 := hvk.1 12 (by omega)
          have hc13 := hvk.1 13 (by omega)
          have hc14 := hvk.1 14 (by omega)
          have hz12 := hvk.2 12
          have hz13 := hvk.2 13
          have hz14 := hvk.2 14
          have hst := hSk.2.1
          have HV := Lib.hid hvk; have HO := Lib.hid hok; have HVl := Lib.hid hVlt
          clear hvk hok hSk hV2 hVlt
          go_wp2_with fail
          go_region
          go_wp2_with fail
          go_region
          have e12 := low_32 (V 12) t count (HVl.out 12)
          have e13 := high_32 (V 13) t count (HVl.out 13) hct
          have e14 := not_32 (V 14) (HVl.out 14)
          have hb2 := (HV.out.set (i := 12) (by omega) (V 12 ^^^ (t + count) % 4294967296)).set (i := 13) (by omega) (V 13 ^^^ (t + count) / 4294967296)
          have hb3 := hb2.set (i := 14) (by omega) (4294967295 ^^^ V 14)
          have ho2 := (HO.out.setCell (S := fun b => b = gv) (p := ⟨gv, 12, none⟩) (.inl rfl) (.int .u32 ↑(V 12 ^^^ (t + count) % 4294967296))).setCell (S := fun b => b = gv) (p := ⟨gv, 13, none⟩) (.inl rfl) (.int .u32 ↑(V 13 ^^^ (t + count) / 4294967296))
          have ho3 := ho2.setCell (S := fun b => b = gv) (p := ⟨gv, 14, none⟩) (.inl rfl) (.int .u32 ↑(4294967295 ^^^ V 14))
          have HE12 := Lib.hid e12; have HE13 := Lib.hid e13; have HE14 := Lib.hid e14
          have HB2 := Lib.hid hb2; have HB3 := Lib.hid hb3; have HO2 := Lib.hid ho2; have HO3 := Lib.hid ho3
          clear e12 e13 e14 hb2 hb3 ho2 ho3 hc12 hc13 hz12 hz13 hst
          cases last
          · go_upto_region 18 with fail
            rw [HE12.out, HE13.out]
            have hV0 : Blk16 ((wr.setCell ⟨gv, 12, none⟩ (.int .u32 ↑(V 12 ^^^ (t + count) % 4294967296))).setCell ⟨gv, 13, none⟩ (.int .u32 ↑(V 13 ^^^ (t + count) / 4294967296))).drew.drew gv (v0F V (t + count) false) := HB2.out.drew.drew
            have hO3 := HO2.out.drew.drew
            have hV0l := v0F_lt V (t + count) false HVl.out hct
            have hS3 := hS2.only hO3 hgs2 (by show ¬ gs = gv; omega)
            have hM3 := hM2.only hO3 hgm2 (by show ¬ w.heap.size + 1 = gv; omega)
            have hrw3 := hrw2.only hO3 (by show ¬ _ = gv; omega)
            have hO23 := hO3
            have hsz3 := hO3.size
            generalize (World.drew _) = W3 at hV0 hO3 hS3 hM3 hrw3 hO23 hsz3 ⊢
            generalize hVV : v0F V (t + count) false = V0 at hV0 hV0l
            have HVV := Lib.hid hVV; clear hVV
            have hgm3 : w.heap.size + 1 < W3.heap.size := by omega
            obtain ⟨tr, fr, hrwh⟩ := hrw3
            go_wp2_with (refine wpList_load_row rfl 202 _ rfl 1 rfl tr rowsV fr _ hrwh Tryd.underlying202 rfl (by kernel_rfl) ?_)
            clear HE12 HE13 HE14 HB2 HB3 HO2 HO3 hc14 hz14 HV HO hS2 hM2 hrw2 hiv2 hiv hrw
            have hne1 : gv ≠ w.heap.size + 1 := by omega
            have hgs3 : gs < W3.heap.size := by omega
            have hgsv : gs ≠ gv := by omega
            have HM3 := Lib.hid hM3; have HS3 := Lib.hid hS3; have HO23 := Lib.hid hO23; have HO2w := Lib.hid hO2
            clear hM3 hS3 hO23 hO3 hO2 hrwh
            go_loopw [100] (fun i wr => ∃ k : Nat, k ≤ 10 ∧ i = .int .i64 k ∧ Blk16 wr gv (roundsF (mF l 64) V0 k) ∧ Only (fun b => b = gv) W3 wr) (fun i _ => 10 - (intOf i).toNat)
            case atStart => exact ⟨0, by omega, rfl, hV0, Only.refl _ _⟩
            case round =>
              obtain ⟨k, hk10, rfl, hrk, hok⟩ := hrel
              have hRl := roundsF_lt (mF l 64) V0 hV0l k
              by_cases hlt4 : k < 10
              · have hix := fun wx => run_index_arr (P := Tryd.prog) 202 9 10 rowsV .i64 k hlt4 Tryd.underlying202 _ Tryd.underlying9 rfl (by kernel_rfl) _ (rows_at k hlt4) wx
                have HR := Lib.hid hrk; have HO := Lib.hid hok; have HRL := Lib.hid hRl
                clear hrk hok hRl hV0 hV0l
                go_wp2_with fail
                have hm1 := HM3.out.only HO.out hgm3 (fun e => hne1 e.symm)
                refine (turn_00 gv (w.heap.size + 1) _ (mF l 64) (rowN k) _ (rowN_hex k hlt4) HRL.out HR.out hm1 hm1.lt hne1).mono ?_
                rintro e w5 ⟨rfl, ho5, hb5⟩
                have hl5 := turnF_lt (mF l 64) (rowN k) 0 0 _ HRL.out 4
                have HO5 := Lib.hid ho5; have HB5 := Lib.hid hb5; have HL5 := Lib.hid hl5
                clear ho5 hb5 hl5 hm1
                go_wp2_with fail
                have hm2 := HM3.out.only (HO.out.trans HO5.out) hgm3 (fun e => hne1 e.symm)
                refine (turn_81 gv (w.heap.size + 1) _ (mF l 64) (rowN k) _ (rowN_hex k hlt4) HL5.out HB5.out hm2 hm2.lt hne1).mono ?_
                rintro e w6 ⟨rfl, ho6, hb6⟩
                have HO6 := Lib.hid ho6; have HB6 := Lib.hid hb6
                clear ho6 hb6 hm2
                go_wp2_with fail
                exact ⟨⟨k + 1, by omega, by go_num, HB6.out, (HO.out.trans HO5.out).trans HO6.out⟩, by simp [intOf]; omega⟩
              · have h10 : k = 10 := by omega
                subst h10
                generalize hR : roundsF (mF l 64) V0 10 = R at hrk hRl
                have HR := Lib.hid hR; clear hR
                have hs4 := HS3.out.only hok hgs3 hgsv
                clear hV0 hV0l
                go_wp2_with fail
                obtain ⟨W4, hW4⟩ : ∃ W4, W4 = wr := ⟨_, rfl⟩
                subst hW4
                have HOK := Lib.hid hok; clear hok
                have hgv4 : gv < W4.heap.size := hrk.lt
                have hgs4 : gs < W4.heap.size := World.block_lt_of_cell? W4 ⟨gs, 0, none⟩ (hs4.1 0 (by omega))
                go_loopw [108] (fun i wr => ∃ k : Nat, k ≤ 8 ∧ i = .int .i64 k ∧ St wr gs (hF H R k) (t + count) ∧ Only (fun b => b = gs) W4 wr) (fun i _ => 8 - (intOf i).toNat)
                case atStart => exact ⟨0, by omega, rfl, hs4, Only.refl _ _⟩
                case round =>
                  obtain ⟨k, hk8, rfl, hsk, hok4⟩ := hrel
                  have hvk := hrk.only hok4 hgv4 (fun e => hgsv e.symm)
                  have hHl := hF_lt H R hH hRl k
                  by_cases hlt5 : k < 8
                  · have hc1 := hvk.1 (k / 4 * 4 + k % 4) (by omega)
                    have hc2 := hvk.1 ((2 + k / 4) * 4 + k % 4) (by omega)
                    have hc3 := hsk.1 k hlt5
                    have hz3 := hsk.2.2 k
                    have hx1 := u32_xor (R (k / 4 * 4 + k % 4)) (R ((2 + k / 4) * 4 + k % 4)) (hRl _) (hRl _)
                    have hx2 := u32_xor (hF H R k k) (R (k / 4 * 4 + k % 4) ^^^ R ((2 + k / 4) * 4 + k % 4)) (hHl _) (xor_lt (hRl _) (hRl _))
                    have HX1 := Lib.hid hx1; have HX2 := Lib.hid hx2
                    have HS := Lib.hid hsk; have HO := Lib.hid hok4; have HV := Lib.hid hvk
                    clear hx1 hx2 hsk hok4 hvk hHl hrk hRl hs4
                    go_wp2_with fail
                    go_region
                    go_wp2_with fail
                    rw [HX1.out, HX2.out]
                    refine ⟨⟨k + 1, by omega, by go_num, St.drew (HS.out.set hlt5 _), (HO.out.setCell (S := fun b => b = gs) (p := ⟨gs, _, none⟩) (.inl rfl) _).drew⟩, by simp [intOf]; omega⟩
                  · have h8 : k = 8 := by omega
                    subst h8
                    have HS := Lib.hid hsk; have HO := Lib.hid hok4
                    clear hsk hok4 hvk hHl hrk hRl hs4
                    go_wp2_with fail
                    go_end0
                    refine ⟨rfl, ?_, ?_⟩
                    · exact ((HO2w.out.addNew HO23.out (by show w.heap.size ≤ gv; omega)).addNew HOK.out (by show w.heap.size ≤ gv; omega)).trans HO.out
                    · have h := HS.out
                      rw [← HR.out, ← HVV.out, ← HV8.out] at h
                      exact h
          · go_upto_region 18 with fail
            rw [HE12.out, HE13.out, HE14.out]
            have hV0 : Blk16 (((wr.setCell ⟨gv, 12, none⟩ (.int .u32 ↑(V 12 ^^^ (t + count) % 4294967296))).setCell ⟨gv, 13, none⟩ (.int .u32 ↑(V 13 ^^^ (t + count) / 4294967296))).setCell ⟨gv, 14, none⟩ (.int .u32 ↑(4294967295 ^^^ V 14))).drew.drew gv (v0F V (t + count) true) := HB3.out.drew.drew
            have hO3 := HO3.out.drew.drew
            have hV0l := v0F_lt V (t + count) true HVl.out hct
            have hS3 := hS2.only hO3 hgs2 (by show ¬ gs = gv; omega)
            have hM3 := hM2.only hO3 hgm2 (by show ¬ w.heap.size + 1 = gv; omega)
            have hrw3 := hrw2.only hO3 (by show ¬ _ = gv; omega)
            have hO23 := hO3
            have hsz3 := hO3.size
            generalize (World.drew _) = W3 at hV0 hO3 hS3 hM3 hrw3 hO23 hsz3 ⊢
            generalize hVV : v0F V (t + count) true = V0 at hV0 hV0l
            have HVV := Lib.hid hVV; clear hVV
            have hgm3 : w.heap.size + 1 < W3.heap.size := by omega
            obtain ⟨tr, fr, hrwh⟩ := hrw3
            go_wp2_with (refine wpList_load_row rfl 202 _ rfl 1 rfl tr rowsV fr _ hrwh Tryd.underlying202 rfl (by kernel_rfl) ?_)
            clear HE12 HE13 HE14 HB2 HB3 HO2 HO3 hc14 hz14 HV HO hS2 hM2 hrw2 hiv2 hiv hrw
            have hne1 : gv ≠ w.heap.size + 1 := by omega
            have hgs3 : gs < W3.heap.size := by omega
            have hgsv : gs ≠ gv := by omega
            have HM3 := Lib.hid hM3; have HS3 := Lib.hid hS3; have HO23 := Lib.hid hO23; have HO2w := Lib.hid hO2
            clear hM3 hS3 hO23 hO3 hO2 hrwh
            go_loopw [100] (fun i wr => ∃ k : Nat, k ≤ 10 ∧ i = .int .i64 k ∧ Blk16 wr gv (roundsF (mF l 64) V0 k) ∧ Only (fun b => b = gv) W3 wr) (fun i _ => 10 - (intOf i).toNat)
            case atStart => exact ⟨0, by omega, rfl, hV0, Only.refl _ _⟩
            case round =>
              obtain ⟨k, hk10, rfl, hrk, hok⟩ := hrel
              have hRl := roundsF_lt (mF l 64) V0 hV0l k
              by_cases hlt4 : k < 10
              · have hix := fun wx => run_index_arr (P := Tryd.prog) 202 9 10 rowsV .i64 k hlt4 Tryd.underlying202 _ Tryd.underlying9 rfl (by kernel_rfl) _ (rows_at k hlt4) wx
                have HR := Lib.hid hrk; have HO := Lib.hid hok; have HRL := Lib.hid hRl
                clear hrk hok hRl hV0 hV0l
                go_wp2_with fail
                have hm1 := HM3.out.only HO.out hgm3 (fun e => hne1 e.symm)
                refine (turn_00 gv (w.heap.size + 1) _ (mF l 64) (rowN k) _ (rowN_hex k hlt4) HRL.out HR.out hm1 hm1.lt hne1).mono ?_
                rintro e w5 ⟨rfl, ho5, hb5⟩
                have hl5 := turnF_lt (mF l 64) (rowN k) 0 0 _ HRL.out 4
                have HO5 := Lib.hid ho5; have HB5 := Lib.hid hb5; have HL5 := Lib.hid hl5
                clear ho5 hb5 hl5 hm1
                go_wp2_with fail
                have hm2 := HM3.out.only (HO.out.trans HO5.out) hgm3 (fun e => hne1 e.symm)
                refine (turn_81 gv (w.heap.size + 1) _ (mF l 64) (rowN k) _ (rowN_hex k hlt4) HL5.out HB5.out hm2 hm2.lt hne1).mono ?_
                rintro e w6 ⟨rfl, ho6, hb6⟩
                have HO6 := Lib.hid ho6; have HB6 := Lib.hid hb6
                clear ho6 hb6 hm2
                go_wp2_with fail
                exact ⟨⟨k + 1, by omega, by go_num, HB6.out, (HO.out.trans HO5.out).trans HO6.out⟩, by simp [intOf]; omega⟩
              · have h10 : k = 10 := by omega
                subst h10
                generalize hR : roundsF (mF l 64) V0 10 = R at hrk hRl
                have HR := Lib.hid hR; clear hR
                have hs4 := HS3.out.only hok hgs3 hgsv
                clear hV0 hV0l
                go_wp2_with fail
                obtain ⟨W4, hW4⟩ : ∃ W4, W4 = wr := ⟨_, rfl⟩
                subst hW4
                have HOK := Lib.hid hok; clear hok
                have hgv4 : gv < W4.heap.size := hrk.lt
                have hgs4 : gs < W4.heap.size := World.block_lt_of_cell? W4 ⟨gs, 0, none⟩ (hs4.1 0 (by omega))
                go_loopw [108] (fun i wr => ∃ k : Nat, k ≤ 8 ∧ i = .int .i64 k ∧ St wr gs (hF H R k) (t + count) ∧ Only (fun b => b = gs) W4 wr) (fun i _ => 8 - (intOf i).toNat)
                case atStart => exact ⟨0, by omega, rfl, hs4, Only.refl _ _⟩
                case round =>
                  obtain ⟨k, hk8, rfl, hsk, hok4⟩ := hrel
                  have hvk := hrk.only hok4 hgv4 (fun e => hgsv e.symm)
                  have hHl := hF_lt H R hH hRl k
                  by_cases hlt5 : k < 8
                  · have hc1 := hvk.1 (k / 4 * 4 + k % 4) (by omega)
                    have hc2 := hvk.1 ((2 + k / 4) * 4 + k % 4) (by omega)
                    have hc3 := hsk.1 k hlt5
                    have hz3 := hsk.2.2 k
                    have hx1 := u32_xor (R (k / 4 * 4 + k % 4)) (R ((2 + k / 4) * 4 + k % 4)) (hRl _) (hRl _)
                    have hx2 := u32_xor (hF H R k k) (R (k / 4 * 4 + k % 4) ^^^ R ((2 + k / 4) * 4 + k % 4)) (hHl _) (xor_lt (hRl _) (hRl _))
                    have HX1 := Lib.hid hx1; have HX2 := Lib.hid hx2
                    have HS := Lib.hid hsk; have HO := Lib.hid hok4; have HV := Lib.hid hvk
                    clear hx1 hx2 hsk hok4 hvk hHl hrk hRl hs4
                    go_wp2_with fail
                    go_region
                    go_wp2_with fail
                    rw [HX1.out, HX2.out]
                    refine ⟨⟨k + 1, by omega, by go_num, St.drew (HS.out.set hlt5 _), (HO.out.setCell (S := fun b => b = gs) (p := ⟨gs, _, none⟩) (.inl rfl) _).drew⟩, by simp [intOf]; omega⟩
                  · have h8 : k = 8 := by omega
                    subst h8
                    have HS := Lib.hid hsk; have HO := Lib.hid hok4
                    clear hsk hok4 hvk hHl hrk hRl hs4
                    go_wp2_with fail
                    go_end0
                    refine ⟨rfl, ?_, ?_⟩
                    · exact ((HO2w.out.addNew HO23.out (by show w.heap.size ≤ gv; omega)).addNew HOK.out (by show w.heap.size ≤ gv; omega)).trans HO.out
                    · have h := HS.out
                      rw [← HR.out, ← HVV.out, ← HV8.out] at h
                      exact h
end Go.Proofs.YtocgnkenlfdffaaDoor
