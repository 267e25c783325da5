/- blake.Sum. -/
import Derived.Test.YtocgnkenlfdffaaDoorBlk3
import Derived.Lib.BufferWrite
namespace Go.Proofs.YtocgnkenlfdffaaDoor
open Go.RowKit
theorem ivLit : ivV = #[.int .u32 1779033703, .int .u32 3144134277, .int .u32 1013904242, .int .u32 2773480762, .int .u32 1359893119, .int .u32 2600822924, .int .u32 528734635, .int .u32 1541459225] := rfl
/-- a block's bytes, filled up -/
def z64 : List UInt8 := List.replicate 64 0
def pad64 (l : List UInt8) : List UInt8 := l.take 64 ++ List.replicate (64 - l.length) 0
theorem pad64_length (l : List UInt8) : (pad64 l).length = 64 := by simp [pad64]; omega
theorem setRow_alloc (w : World) (cs A : Array Value) (t : TypeId) : (w.alloc (.cells cs t)).setRow w.heap.size A = w.alloc (.cells A t) := by
  unfold World.setRow World.alloc
  congr 1
  apply Array.ext_getElem?
  intro i
  rw [Array.getElem?_modify]
  by_cases e : w.heap.size = i
  · subst e; simp
  · rw [if_neg e]
    simp only [Array.getElem?_push]
    rw [if_neg (fun h => e h.symm), if_neg (fun h => e h.symm)]
/-- copy of a text into a new block of 64 bytes 0 -/
theorem run_copy_new {P : Program} (w : World) (dT sT ty elem t : TypeId) (cap : Nat) (s : List UInt8) (hu : P.underlying dT = some (.slice elem)) (hs : (P.info? elem).map (·.size) = some 1) :
    (Builtin.copy_ #[dT, sT] ty #[.slice (some ⟨w.heap.size, 0, none⟩) 64 cap, .string ⟨s.toArray⟩]).run P (w.alloc (.cells (bytesV z64) t)) =
      .ok (.int .i64 ((min s.length 64 : Nat) : Int)) (w.alloc (.cells (bytesV (pad64 s)) t)) := by
  cases hq : P.info? elem with
  | none => simp [hq] at hs
  | some i =>
    have hzl : z64.length = 64 := rfl
    have hst := run_storeCells_at P w.heap.size 0 t ((s.take 64).map fun b => Value.int .u8 (b.toNat : Int)) 0 (bytesV z64) (w.alloc (.cells (bytesV z64) t)) (heap_alloc_new w _) (by simp [bytesV, hzl]; omega) (by
      intro u hu
      obtain ⟨x, _, rfl⟩ := List.mem_map.1 hu
      rfl)
    have hsz : i.size = 1 := by simpa [hq] using hs
    have hrow : (List.take 0 (bytesV z64).toList ++ (s.take 64).map (fun b => Value.int .u8 (b.toNat : Int)) ++ List.drop (0 + ((s.take 64).map fun b => Value.int .u8 (b.toNat : Int)).length) (bytesV z64).toList).toArray = bytesV (pad64 s) := by
      unfold bytesV pad64 z64
      simp only [List.take_zero, List.nil_append, List.map_append, List.map_replicate, List.drop_replicate, Nat.zero_add, List.length_map, List.length_take]
      have e : 64 - min 64 s.length = 64 - s.length := by omega
      rw [e]
    simp only [Nat.add_zero] at hst
    rw [hrow, setRow_alloc] at hst
    have hz : ∀ w, (Go.sizeOf elem).run P w = .ok 1 w := fun w => by simp [sizeOf, typeInfo, hq, hsz]
    have hn : (⟨s.toArray⟩ : ByteArray).size = s.length := by show s.toArray.size = _; simp
    have hx : List.take (s.length.min 64) (List.map (fun b : UInt8 => Value.int .u8 (b.toNat : Int)) s) = (s.take 64).map fun b => Value.int .u8 (b.toNat : Int) := by
      rw [List.map_take]
      rcases Nat.le_total s.length 64 with h | h
      · rw [show s.length.min 64 = s.length from Nat.min_eq_left h, List.take_of_length_le (by simp), List.take_of_length_le (by simpa using h)]
      · rw [show s.length.min 64 = 64 from Nat.min_eq_right h]
    simp [Builtin.copy_, run_underlying hu, Builtin.lenOf, Builtin.firstCells, hz, hn]
    rw [hx, hst]
    rfl
theorem wpList_copy_new {P : Program} (w : World) {ops : Array Oper} {rest : List Oper} {o : Oper} {a : Act} {Q : Exit → Act → World → Prop} (hgd : o.guard = none) (d x : Operand) (dT sT elem t : TypeId)
    (ho : o.op = .call { callee := .builtin .copy, args := #[d, x], argTypes := #[dT, sT] }) (cap : Nat) (s : List UInt8) (hu : P.underlying dT = some (.slice elem)) (hs : (P.info? elem).map (·.size) = some 1)
    (hd : a.eval d = .slice (some ⟨w.heap.size, 0, none⟩) 64 cap) (hx : a.eval x = .string ⟨s.toArray⟩)
    (h : wpList P ops Q rest (a.put o.dst (.int .i64 ((min s.length 64 : Nat) : Int))) (w.alloc (.cells (bytesV (pad64 s)) t))) : wpList P ops Q (o :: rest) a (w.alloc (.cells (bytesV z64) t)) := by
  refine wpList_plain hgd fun _ hK => ?_
  have hr := run_copy_new (P := P) w dT sT o.type elem t cap s hu hs
  unfold Oper.wp execOp
  simp only [ho, resolve, invoke, builtin, Sem.run_bind, Sem.run_pure, Result.andThen_ok, List.map_toArray, List.map_cons, List.map_nil, hd, hx, hr]
  exact hK _ _ h
/-- the state ahead of all blocks -/
def h0F (K : List UInt8) : Nat → Nat := upd iv 0 (iv 0 ^^^ (16842784 ^^^ K.length * 256))
theorem h0F_lt (K : List UInt8) (h : K.length ≤ 32) : ∀ j, h0F K j < 4294967296 := upd_lt iv_lt (xor_lt (iv_lt 0) (xor_lt (by omega) (by omega)))
theorem h0_eq (K : List UInt8) (h : K.length ≤ 32) : bits .xor .u32 1779033703 (bits .xor .u32 16842784 (((K.length : Nat) : Int) * 256)) = ((1779033703 ^^^ (16842784 ^^^ K.length * 256) : Nat) : Int) := by
  have e1 : ((K.length : Nat) : Int) * 256 = ((K.length * 256 : Nat) : Int) := by omega
  have c1 : (16842784 : Int) = ((16842784 : Nat) : Int) := by omega
  have c2 : (1779033703 : Int) = ((1779033703 : Nat) : Int) := by omega
  rw [e1, c1, u32_xor _ _ (by omega) (by omega), c2, u32_xor _ _ (by omega) (xor_lt (by omega) (by omega))]
theorem St.new (w : World) (t : TypeId) (K : List UInt8) : St (w.alloc (.cells #[.int .u32 ((1779033703 ^^^ (16842784 ^^^ K.length * 256) : Nat) : Int), .int .u32 3144134277, .int .u32 1013904242, .int .u32 2773480762, .int .u32 1359893119, .int .u32 2600822924, .int .u32 528734635, .int .u32 1541459225, .int .u64 0] t)) w.heap.size (h0F K) 0 := by
  refine ⟨fun j hj => ?_, by rw [cell_new]; rfl, fun j => frozen_new _ _ _ _⟩
  rw [cell_new]
  match j, hj with
  | 0, _ => simp [h0F, upd, iv, ivL]
  | 1, _ => simp [h0F, upd, iv, ivL]
  | 2, _ => simp [h0F, upd, iv, ivL]
  | 3, _ => simp [h0F, upd, iv, ivL]
  | 4, _ => simp [h0F, upd, iv, ivL]
  | 5, _ => simp [h0F, upd, iv, ivL]
  | 6, _ => simp [h0F, upd, iv, ivL]
  | 7, _ => simp [h0F, upd, iv, ivL]
  | n + 8, h => exact absurd h (by omega)
/-- the blocks of a text -/
def textF (H : Nat → Nat) (t : Nat) (Y : List UInt8) : Nat → Nat :=
  if Y = [] then H else textF (blockF H (t + min Y.length 64) (Y.drop 64).isEmpty (pad64 Y)) (t + min Y.length 64) (Y.drop 64)
termination_by Y.length
decreasing_by
  rename_i h
  have : 0 < Y.length := List.length_pos_iff.2 h
  simp; omega
def keyH (K X : List UInt8) : Nat → Nat := if K = [] then h0F K else blockF (h0F K) 64 X.isEmpty (pad64 K)
def keyT (K : List UInt8) : Nat := if K = [] then 0 else 64
def finF (first : Bool) (H : Nat → Nat) (t : Nat) (Y : List UInt8) : Nat → Nat := if first = true ∧ Y = [] then blockF H t true (pad64 []) else textF H t Y
def stateF (K X : List UInt8) : Nat → Nat := finF K.isEmpty (keyH K X) (keyT K) X
theorem keyT_le (K : List UInt8) : keyT K ≤ 64 := by unfold keyT; split <;> omega
theorem keyH_lt (K X : List UInt8) (h : K.length ≤ 32) : ∀ j, keyH K X j < 4294967296 := by
  unfold keyH
  split
  · exact h0F_lt K h
  · exact blockF_lt _ _ _ _ (h0F_lt K h) (by omega)
def strLen : Value → Nat | .string s => s.size | _ => 0
def boolN : Value → Nat | .bool true => 1 | _ => 0
theorem ba_drop64 (Y : List UInt8) : (⟨Y.toArray⟩ : ByteArray).extract (min Y.length 64) Y.length = ⟨(Y.drop 64).toArray⟩ := by
  rw [ba_extract, List.take_of_length_le (Nat.le_refl _)]
  rcases Nat.le_total Y.length 64 with h | h
  · rw [Nat.min_eq_left h, List.drop_of_length_le (Nat.le_refl _), List.drop_of_length_le h]
  · rw [Nat.min_eq_right h]
theorem ba_drop64_empty (Y : List UInt8) : ((⟨Y.toArray⟩ : ByteArray).extract (min Y.length 64) Y.length).toList.isEmpty = (Y.drop 64).isEmpty := by
  rw [ba_drop64]; simp
theorem fin_step (f : Bool) (H : Nat → Nat) (t : Nat) (Y : List UInt8) (h : f = true ∨ Y ≠ []) :
    finF f H t Y = finF false (blockF H (t + min Y.length 64) (Y.drop 64).isEmpty (pad64 Y)) (t + min Y.length 64) (Y.drop 64) := by
  by_cases hY : Y = []
  · subst hY
    rcases h with rfl | h
    · unfold finF
      rw [if_pos ⟨rfl, rfl⟩, if_neg (by simp), List.drop_nil, textF]
      simp
    · exact absurd rfl h
  · unfold finF
    rw [if_neg (fun h => hY h.2), if_neg (by simp)]
    conv => lhs; rw [textF, if_neg hY]
theorem fin_end (H : Nat → Nat) (t : Nat) : finF false H t [] = H := by
  unfold finF; rw [if_neg (by simp), textF]; simp
def z32 : List UInt8 := List.replicate 32 0
theorem z32_at (j : Nat) : z32.getD j 0 = 0 := by
  unfold z32
  rw [List.getD_eq_getElem?_getD, List.getElem?_replicate]
  split <;> rfl
/-- a block of n numbers of one kind -/
def RowOf (w : World) (g n : Nat) (k : IntKind) (f : Nat → Nat) : Prop := (∀ j, j < n → w.cell? ⟨g, j, none⟩ = some (.int k (f j))) ∧ ∀ j, w.frozen? ⟨g, j, none⟩ = false
theorem RowOf.set {w : World} {g n i : Nat} {k : IntKind} {f : Nat → Nat} (h : RowOf w g n k f) (x : Nat) : RowOf (w.setCell ⟨g, i, none⟩ (.int k x)) g n k (upd f i x) := by
  refine ⟨fun j hj => ?_, fun j => by rw [World.frozen?_setCell]; exact h.2 j⟩
  unfold upd
  by_cases e : j = i
  · subst e; rw [if_pos rfl]; exact set_same (h.1 j hj)
  · rw [if_neg e, set_off (fun e' => e e'.symm)]; exact h.1 j hj
theorem RowOf.drew {w : World} {g n : Nat} {k : IntKind} {f : Nat → Nat} (h : RowOf w g n k f) : RowOf w.drew g n k f := h
def outB (H : Nat → Nat) (i : Nat) : Nat := H (i / 4) / 2 ^ (8 * (i % 4)) % 256
def outF (H : Nat → Nat) : Nat → Nat → Nat
  | 0 => fun _ => 0
  | k + 1 => upd (outF H k) k (outB H k)
theorem outF_at (H : Nat → Nat) : ∀ k j, j < k → outF H k j = outB H j := by
  intro k
  induction k with
  | zero => intro j h; omega
  | succ k ih =>
    intro j h
    show upd (outF H k) k (outB H k) j = _
    unfold upd
    by_cases e : j = k
    · rw [if_pos e, e]
    · rw [if_neg e]; exact ih j (by omega)
theorem Addr.add_zero_off (g j : Nat) : (⟨g, 0, none⟩ : Addr).add j = ⟨g, j, none⟩ := by unfold Addr.add; split <;> simp_all
theorem St.far {w : World} {g g' t i : Nat} {H : Nat → Nat} (h : St w g H t) (hne : g ≠ g') (v : Value) : St (w.setCell ⟨g', i, none⟩ v) g H t :=
  ⟨fun j hj => (set_blk (fun e => hne e.symm)).trans (h.1 j hj), (set_blk (fun e => hne e.symm)).trans h.2.1, fun j => by rw [World.frozen?_setCell]; exact h.2.2 j⟩
/-- the sum -/
def sumF (K X : List UInt8) : List UInt8 := (List.range 32).map fun i => UInt8.ofNat (outB (stateF K X) i)
set_option maxRecDepth 100000 in
set_option maxHeartbeats 4000000 in
theorem sum_any (K X : List UInt8) (w : World) (hK : K.length ≤ 32) (hX : X.length < 281474976710656) (hiv : Gl w 0 ivV) (hrw : Gl w 1 rowsV) (h8 : 8 ≤ w.heap.size) :
    Calls Tryd.prog 68 #[.string ⟨K.toArray⟩, .string ⟨X.toArray⟩] w
      fun e w' => e = .returned (.tuple #[.string ⟨(sumF K X).toArray⟩, .int .i64 0]) ∧ Below w.heap.size w w' := by
  obtain ⟨tr, fr, hg⟩ := hiv
  rw [ivLit] at hg
  go_enter Tryd.func68, Tryd.ntmps68
  go_wp2_with (refine wpList_load_row rfl 175 _ rfl 0 rfl tr _ fr _ hg Tryd.underlying175 rfl (by kernel_rfl) ?_)
  have hh0 := h0_eq K hK
  have HH0 := Lib.hid hh0; clear hh0
  go_region
  go_upto_if 34 with fail
  rw [HH0.out]
  have hs1 := (St.new w 178 K).drew
  have hb1 := ((Below.refl w.heap.size w).alloc (Nat.le_refl _) (.cells #[.int .u32 ((1779033703 ^^^ (16842784 ^^^ K.length * 256) : Nat) : Int), .int .u32 3144134277, .int .u32 1013904242, .int .u32 2773480762, .int .u32 1359893119, .int .u32 2600822924, .int .u32 528734635, .int .u32 1541459225, .int .u64 0] 178)).drew
  have hsz1 : (w.alloc (.cells #[.int .u32 ((1779033703 ^^^ (16842784 ^^^ K.length * 256) : Nat) : Int), .int .u32 3144134277, .int .u32 1013904242, .int .u32 2773480762, .int .u32 1359893119, .int .u32 2600822924, .int .u32 528734635, .int .u32 1541459225, .int .u64 0] 178)).drew.heap.size = w.heap.size + 1 := by simp
  have hlt1 : w.heap.size < (w.alloc (.cells #[.int .u32 ((1779033703 ^^^ (16842784 ^^^ K.length * 256) : Nat) : Int), .int .u32 3144134277, .int .u32 1013904242, .int .u32 2773480762, .int .u32 1359893119, .int .u32 2600822924, .int .u32 528734635, .int .u32 1541459225, .int .u64 0] 178)).drew.heap.size := by simp
  generalize World.drew _ = W1 at hs1 hb1 hsz1 hlt1 ⊢
  have HSZ := Lib.hid hsz1; clear hsz1
  have HHG := Lib.hid hg; clear hg HH0
  have hiv1 : Gl W1 0 ivV := Gl.below ⟨tr, fr, HHG.out⟩ hb1 (by show _ < w.heap.size; omega)
  have hrw1 := hrw.below hb1 (by show _ < w.heap.size; omega)
  have h0l := h0F_lt K hK
  have HS1 := Lib.hid hs1; have HIV1 := Lib.hid hiv1; have HRW1 := Lib.hid hrw1; have H0L := Lib.hid h0l; have HRW := Lib.hid hrw
  clear hs1 hiv1 hrw1 h0l hrw
  go_cut [7] from 34 to 42 (fun _ wx => St wx w.heap.size (keyH K X) (keyT K) ∧ Below w.heap.size w wx ∧ w.heap.size < wx.heap.size)
  case first =>
    by_cases hK0 : K = []
    · subst hK0
      go_wp2_with fail
      go_meet
      exact ⟨by simpa [keyH, keyT] using HS1.out, hb1, hlt1⟩
    · have hKe : K.isEmpty = false := by simpa using hK0
      have hkey : ∀ (b : Bool), b = X.isEmpty → Calls Tryd.prog 87 #[.pointer (some ⟨w.heap.size, 0, none⟩), .agg (bytesV (pad64 K)), .int .i64 64, .bool b] (W1.alloc (.cells (bytesV (pad64 K)) 180)) fun e w' => e = .returned (.tuple #[]) ∧ St w' w.heap.size (keyH K X) (keyT K) ∧ Below w.heap.size w w' ∧ w.heap.size < w'.heap.size := by
        intro b hb
        have hbn : Below W1.heap.size W1 (W1.alloc (.cells (bytesV (pad64 K)) 180)) := (Below.refl _ _).alloc (Nat.le_refl _) _
        have hct := block_any w.heap.size (pad64 K) 64 b (h0F K) 0 (W1.alloc (.cells (bytesV (pad64 K)) 180)) (pad64_length K) H0L.out (HS1.out.below hbn hlt1) (Nat.lt_of_lt_of_le hlt1 hbn.size) h8 (HIV1.out.below hbn (by omega)) (HRW1.out.below hbn (by omega)) (by omega)
        refine hct.mono ?_
        rintro e w' ⟨rfl, ho, hs⟩
        refine ⟨rfl, ?_, ?_, ?_⟩
        · rw [show keyH K X = blockF (h0F K) 64 X.isEmpty (pad64 K) from if_neg hK0, show keyT K = 64 from if_neg hK0, ← hb]; exact hs
        · exact (hb1.trans (hbn.mono (by omega))).trans (ho.below (by have := hbn.size; omega) (fun k hk => by omega))
        · have := ho.size; have := hbn.size; omega
      have HKEY := Lib.hid hkey; clear hkey
      go_wp2_with (first | (rw [show (#[.int .u8 0, .int .u8 0, .int .u8 0, .int .u8 0, .int .u8 0, .int .u8 0, .int .u8 0, .int .u8 0, .int .u8 0, .int .u8 0, .int .u8 0, .int .u8 0, .int .u8 0, .int .u8 0, .int .u8 0, .int .u8 0, .int .u8 0, .int .u8 0, .int .u8 0, .int .u8 0, .int .u8 0, .int .u8 0, .int .u8 0, .int .u8 0, .int .u8 0, .int .u8 0, .int .u8 0, .int .u8 0, .int .u8 0, .int .u8 0, .int .u8 0, .int .u8 0, .int .u8 0, .int .u8 0, .int .u8 0, .int .u8 0, .int .u8 0, .int .u8 0, .int .u8 0, .int .u8 0, .int .u8 0, .int .u8 0, .int .u8 0, .int .u8 0, .int .u8 0, .int .u8 0, .int .u8 0, .int .u8 0, .int .u8 0, .int .u8 0, .int .u8 0, .int .u8 0, .int .u8 0, .int .u8 0, .int .u8 0, .int .u8 0, .int .u8 0, .int .u8 0, .int .u8 0, .int .u8 0, .int .u8 0, .int .u8 0, .int .u8 0, .int .u8 0] : Array Value) = bytesV z64 from rfl]; refine wpList_copy_new W1 rfl (.tmp 35) (.tmp 36) 98 9 5 180 rfl 64 K Tryd.underlying98 (by kernel_rfl) rfl rfl ?_) | (refine wpList_load_row rfl 180 _ rfl W1.heap.size rfl 180 (bytesV (pad64 K)) (0, 0) _ (heap_alloc_new W1 _) Tryd.underlying180 rfl (by rw [bytesV_size, pad64_length]; kernel_rfl) ?_) | (go_at_call 87; refine (HKEY.out _ rfl).mono ?_; rintro e w' ⟨rfl, hs, hbb, hlt2⟩))
      · go_meet
        exact ⟨hs, hbb, hlt2⟩
      · rename_i hh; rw [hKe] at hh; cases hh
  case rest =>
    obtain ⟨hs2, hb2, hlt2⟩ := hcut
    go_wp2_with fail
    have HS2 := Lib.hid hs2; clear hs2
    go_loopw [1, 8] (fun v1 v8 wr => ∃ (f : Bool) (Y : List UInt8) (H : Nat → Nat) (t : Nat), v1 = .string ⟨Y.toArray⟩ ∧ v8 = .bool f ∧ St wr w.heap.size H t ∧ Below w.heap.size w wr ∧ w.heap.size < wr.heap.size ∧ Y.length ≤ X.length ∧ t + Y.length ≤ 64 + X.length ∧ (∀ j, H j < 4294967296) ∧ finF f H t Y = stateF K X) (fun v1 v8 _ => 2 * strLen v1 + boolN v8)
    case atStart => exact ⟨_, X, keyH K X, keyT K, rfl, rfl, HS2.out, hb2, hlt2, Nat.le_refl _, by have := keyT_le K; omega, keyH_lt K X hK, rfl⟩
    case round =>
      obtain ⟨f, Y, H, t, rfl, rfl, hst, hbr, hltr, hYX, htY, hH, hfin⟩ := hrel
      have HST := Lib.hid hst; have HH := Lib.hid hH; have HFIN := Lib.hid hfin
      clear hst hH hfin hb1 hb2
      have hblk : ∀ (b : Bool) (q : Int), q = ((min Y.length 64 : Nat) : Int) → Calls Tryd.prog 87 #[.pointer (some ⟨w.heap.size, 0, none⟩), .agg (bytesV (pad64 Y)), .int .i64 q, .bool b] (wr.alloc (.cells (bytesV (pad64 Y)) 180)) fun e w' => e = .returned (.tuple #[]) ∧ St w' w.heap.size (blockF H (t + min Y.length 64) b (pad64 Y)) (t + min Y.length 64) ∧ Below w.heap.size w w' ∧ w.heap.size < w'.heap.size := by
        intro b q hq
        subst hq
        have hbn : Below wr.heap.size wr (wr.alloc (.cells (bytesV (pad64 Y)) 180)) := (Below.refl _ _).alloc (Nat.le_refl _) _
        have hbw : Below w.heap.size w (wr.alloc (.cells (bytesV (pad64 Y)) 180)) := hbr.trans (hbn.mono (by omega))
        have hct := block_any w.heap.size (pad64 Y) (min Y.length 64) b H t (wr.alloc (.cells (bytesV (pad64 Y)) 180)) (pad64_length Y) HH.out (HST.out.below hbn hltr) (Nat.lt_of_lt_of_le hltr hbn.size) h8 (Gl.below ⟨tr, fr, HHG.out⟩ hbw (by show _ < w.heap.size; omega)) (HRW.out.below hbw (by show _ < w.heap.size; omega)) (by omega)
        refine hct.mono ?_
        rintro e w' ⟨rfl, ho, hs⟩
        refine ⟨rfl, hs, ?_, ?_⟩
        · exact hbw.trans (ho.below (by have := hbn.size; omega) (fun k hk => by omega))
        · have := ho.size; have := hbn.size; omega
      have HBLK := Lib.hid hblk; clear hblk
      cases f with
      | true =>
        go_wp2_with (first | (rw [show (#[.int .u8 0, .int .u8 0, .int .u8 0, .int .u8 0, .int .u8 0, .int .u8 0, .int .u8 0, .int .u8 0, .int .u8 0, .int .u8 0, .int .u8 0, .int .u8 0, .int .u8 0, .int .u8 0, .int .u8 0, .int .u8 0, .int .u8 0, .int .u8 0, .int .u8 0, .int .u8 0, .int .u8 0, .int .u8 0, .int .u8 0, .int .u8 0, .int .u8 0, .int .u8 0, .int .u8 0, .int .u8 0, .int .u8 0, .int .u8 0, .int .u8 0, .int .u8 0, .int .u8 0, .int .u8 0, .int .u8 0, .int .u8 0, .int .u8 0, .int .u8 0, .int .u8 0, .int .u8 0, .int .u8 0, .int .u8 0, .int .u8 0, .int .u8 0, .int .u8 0, .int .u8 0, .int .u8 0, .int .u8 0, .int .u8 0, .int .u8 0, .int .u8 0, .int .u8 0, .int .u8 0, .int .u8 0, .int .u8 0, .int .u8 0, .int .u8 0, .int .u8 0, .int .u8 0, .int .u8 0, .int .u8 0, .int .u8 0, .int .u8 0, .int .u8 0] : Array Value) = bytesV z64 from rfl]; refine wpList_copy_new wr rfl (.tmp 50) (.tmp 51) 98 9 5 180 rfl 64 Y Tryd.underlying98 (by kernel_rfl) rfl rfl ?_) | (refine wpList_load_row rfl 180 _ rfl wr.heap.size rfl 180 (bytesV (pad64 Y)) (0, 0) _ (heap_alloc_new wr _) Tryd.underlying180 rfl (by rw [bytesV_size, pad64_length]; kernel_rfl) ?_) | (go_at_call 87; refine (HBLK.out _ _ rfl).mono ?_; rintro e w5 ⟨rfl, hs5, hb5, hlt5⟩))
        rw [ba_drop64_empty] at hs5
        rw [ba_drop64]
        refine ⟨⟨false, Y.drop 64, _, _, rfl, rfl, hs5, hb5, hlt5, by simp; omega, by simp; omega, blockF_lt _ _ _ _ HH.out (by omega), by rw [← fin_step true H t Y (.inl rfl)]; exact HFIN.out⟩, ?_⟩
        show 2 * (Y.drop 64).toArray.size + 0 < 2 * Y.toArray.size + 1
        simp; omega
      | false =>
        by_cases hY : Y = []
        · subst hY
          have hfe := fin_end H t
          rw [HFIN.out] at hfe
          have HFE := Lib.hid hfe
          have hs5 := HST.out
          clear HBLK HFIN hfe
          go_wp2_with fail
          have hz : (#[.int .u8 0, .int .u8 0, .int .u8 0, .int .u8 0, .int .u8 0, .int .u8 0, .int .u8 0, .int .u8 0, .int .u8 0, .int .u8 0, .int .u8 0, .int .u8 0, .int .u8 0, .int .u8 0, .int .u8 0, .int .u8 0, .int .u8 0, .int .u8 0, .int .u8 0, .int .u8 0, .int .u8 0, .int .u8 0, .int .u8 0, .int .u8 0, .int .u8 0, .int .u8 0, .int .u8 0, .int .u8 0, .int .u8 0, .int .u8 0, .int .u8 0, .int .u8 0] : Array Value) = bytesV z32 := rfl
          have ho : RowOf (wr.alloc (.cells (#[.int .u8 0, .int .u8 0, .int .u8 0, .int .u8 0, .int .u8 0, .int .u8 0, .int .u8 0, .int .u8 0, .int .u8 0, .int .u8 0, .int .u8 0, .int .u8 0, .int .u8 0, .int .u8 0, .int .u8 0, .int .u8 0, .int .u8 0, .int .u8 0, .int .u8 0, .int .u8 0, .int .u8 0, .int .u8 0, .int .u8 0, .int .u8 0, .int .u8 0, .int .u8 0, .int .u8 0, .int .u8 0, .int .u8 0, .int .u8 0, .int .u8 0, .int .u8 0] : Array Value) 182)) wr.heap.size 32 .u8 (fun _ => 0) := by
            rw [hz]
            exact ⟨fun j hj => by rw [cell_new, bytesV_at _ _ hj, z32_at]; rfl, fun j => frozen_new _ _ _ _⟩
          have hbn : Below wr.heap.size wr (wr.alloc (.cells (#[.int .u8 0, .int .u8 0, .int .u8 0, .int .u8 0, .int .u8 0, .int .u8 0, .int .u8 0, .int .u8 0, .int .u8 0, .int .u8 0, .int .u8 0, .int .u8 0, .int .u8 0, .int .u8 0, .int .u8 0, .int .u8 0, .int .u8 0, .int .u8 0, .int .u8 0, .int .u8 0, .int .u8 0, .int .u8 0, .int .u8 0, .int .u8 0, .int .u8 0, .int .u8 0, .int .u8 0, .int .u8 0, .int .u8 0, .int .u8 0, .int .u8 0, .int .u8 0] : Array Value) 182)) := (Below.refl _ _).alloc (Nat.le_refl _) _
          have hs6 := hs5.below hbn hltr
          have hb6 := hbr.trans (hbn.mono (by omega))
          have hlt6 : wr.heap.size < (wr.alloc (.cells (#[.int .u8 0, .int .u8 0, .int .u8 0, .int .u8 0, .int .u8 0, .int .u8 0, .int .u8 0, .int .u8 0, .int .u8 0, .int .u8 0, .int .u8 0, .int .u8 0, .int .u8 0, .int .u8 0, .int .u8 0, .int .u8 0, .int .u8 0, .int .u8 0, .int .u8 0, .int .u8 0, .int .u8 0, .int .u8 0, .int .u8 0, .int .u8 0, .int .u8 0, .int .u8 0, .int .u8 0, .int .u8 0, .int .u8 0, .int .u8 0, .int .u8 0, .int .u8 0] : Array Value) 182)).heap.size := by simp
          clear hz hs5 hbn
          generalize wr.alloc (.cells (#[.int .u8 0, .int .u8 0, .int .u8 0, .int .u8 0, .int .u8 0, .int .u8 0, .int .u8 0, .int .u8 0, .int .u8 0, .int .u8 0, .int .u8 0, .int .u8 0, .int .u8 0, .int .u8 0, .int .u8 0, .int .u8 0, .int .u8 0, .int .u8 0, .int .u8 0, .int .u8 0, .int .u8 0, .int .u8 0, .int .u8 0, .int .u8 0, .int .u8 0, .int .u8 0, .int .u8 0, .int .u8 0, .int .u8 0, .int .u8 0, .int .u8 0, .int .u8 0] : Array Value) 182) = W6 at ho hs6 hb6 hlt6 ⊢
          have HS6 := Lib.hid hs6; have HO := Lib.hid ho
          clear hs6 ho
          obtain ⟨go_, hgo_⟩ : ∃ g, wr.heap.size = g := ⟨_, rfl⟩
          rw [hgo_] at HO hlt6 hltr ⊢
          clear hgo_ hbr HST
          go_loopw [62] (fun i w7 => ∃ k : Nat, k ≤ 32 ∧ i = .int .i64 k ∧ RowOf w7 go_ 32 .u8 (outF H k) ∧ St w7 w.heap.size H t ∧ Below w.heap.size w w7) (fun i _ => 32 - (intOf i).toNat)
          case atStart => exact ⟨0, by omega, rfl, HO.out, HS6.out, hb6⟩
          case round =>
            obtain ⟨k, hk, rfl, hrk, hsk, hbk⟩ := hrel
            have hgo : go_ < wr.heap.size := World.block_lt_of_cell? wr ⟨go_, 0, none⟩ (hrk.1 0 (by omega))
            by_cases hlt : k < 32
            · have hc1 := hsk.1 (k / 4) (by omega)
              have hc2 := hrk.1 k hlt
              have hz2 := hrk.2 k
              have hne : w.heap.size ≠ go_ := by omega
              have HR := Lib.hid hrk; have HS := Lib.hid hsk; have HB := Lib.hid hbk
              have hHk := HH.out (k / 4)
              clear hrk hsk hbk hb6
              go_wp2_with fail
              have hv : ((H (k / 4) : Nat) : Int) / 2 ^ (8 * (k % 4)) % 256 = ((outB H k : Nat) : Int) := by unfold outB; push_cast; rfl
              rw [hv]
              exact ⟨⟨k + 1, by omega, by go_num, HR.out.set _, HS.out.far hne _, HB.out.setCell (by show w.heap.size ≤ go_; omega) _⟩, by simp [intOf]; omega⟩
            · have h32 : k = 32 := by omega
              subst h32
              have hlen : (sumF K X).length = 32 := by simp [sumF]
              have hcv := run_convert_bytes_back (P := Tryd.prog) wr 98 9 5 ⟨go_, 0, none⟩ 32 (sumF K X) Tryd.underlying98 Tryd.underlying5 Tryd.underlying9 (by
                intro j hj
                have hj2 : j < 32 := by rw [← hlen]; exact hj
                rw [Addr.add_zero_off, hrk.1 j hj2, outF_at H 32 j hj2]
                have e : (sumF K X)[j].toNat = outB H j := by
                  simp only [sumF, List.getElem_map, List.getElem_range, UInt8.toNat_ofNat', ← HFE.out]
                  exact Nat.mod_eq_of_lt (Nat.mod_lt _ (by omega))
                exact congrArg (fun n : Nat => some (Value.int .u8 (n : Int))) e.symm)
              rw [hlen] at hcv
              have HB := Lib.hid hbk
              clear hrk hsk hbk hb6 hlen
              go_wp2_with fail
              go_ret2
              exact ⟨rfl, HB.out⟩
        · have hYe : Y.isEmpty = false := by simpa using hY
          go_wp2_with (first | (rw [show (#[.int .u8 0, .int .u8 0, .int .u8 0, .int .u8 0, .int .u8 0, .int .u8 0, .int .u8 0, .int .u8 0, .int .u8 0, .int .u8 0, .int .u8 0, .int .u8 0, .int .u8 0, .int .u8 0, .int .u8 0, .int .u8 0, .int .u8 0, .int .u8 0, .int .u8 0, .int .u8 0, .int .u8 0, .int .u8 0, .int .u8 0, .int .u8 0, .int .u8 0, .int .u8 0, .int .u8 0, .int .u8 0, .int .u8 0, .int .u8 0, .int .u8 0, .int .u8 0, .int .u8 0, .int .u8 0, .int .u8 0, .int .u8 0, .int .u8 0, .int .u8 0, .int .u8 0, .int .u8 0, .int .u8 0, .int .u8 0, .int .u8 0, .int .u8 0, .int .u8 0, .int .u8 0, .int .u8 0, .int .u8 0, .int .u8 0, .int .u8 0, .int .u8 0, .int .u8 0, .int .u8 0, .int .u8 0, .int .u8 0, .int .u8 0, .int .u8 0, .int .u8 0, .int .u8 0, .int .u8 0, .int .u8 0, .int .u8 0, .int .u8 0, .int .u8 0] : Array Value) = bytesV z64 from rfl]; refine wpList_copy_new wr rfl (.tmp 50) (.tmp 51) 98 9 5 180 rfl 64 Y Tryd.underlying98 (by kernel_rfl) rfl rfl ?_) | (refine wpList_load_row rfl 180 _ rfl wr.heap.size rfl 180 (bytesV (pad64 Y)) (0, 0) _ (heap_alloc_new wr _) Tryd.underlying180 rfl (by rw [bytesV_size, pad64_length]; kernel_rfl) ?_) | (go_at_call 87; refine (HBLK.out _ _ rfl).mono ?_; rintro e w5 ⟨rfl, hs5, hb5, hlt5⟩))
          have hYl : 0 < Y.length := List.length_pos_iff.2 hY
          rw [ba_drop64_empty] at hs5
          rw [ba_drop64]
          refine ⟨⟨false, Y.drop 64, _, _, rfl, rfl, hs5, hb5, hlt5, by simp; omega, by simp; omega, blockF_lt _ _ _ _ HH.out (by omega), by rw [← fin_step false H t Y (.inr hY)]; exact HFIN.out⟩, ?_⟩
          show 2 * (Y.drop 64).toArray.size + 0 < 2 * Y.toArray.size + 0
          simp; omega
end Go.Proofs.YtocgnkenlfdffaaDoor
