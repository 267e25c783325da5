/- package table: Do. -/
import Derived.Test.YtocgnkenlfdffaaDoorTabW4
namespace Go.Proofs.YtocgnkenlfdffaaDoor
open Go Go.RowKit Go.Wap
theorem set_any (t : Tab) (k x : Bytes) (p : Nat) (v : Value) (w : World) (h : TableAt w p v t) (ht : TabOk t) (hf : ¬ (lookT t k = none ∧ t.length = 16)) :
    Calls Tryd.prog 80 #[.pointer (some ⟨p, 0, none⟩), S k, S x] w fun e w' => e = .returned (.int .i64 0) ∧ ∃ v', Moved w w' p v v' (setT t k x) := by
  cases hk : lookT t k with
  | some u => exact (set_there t k u x p v w h ht hk).mono fun e w' ⟨he, hm⟩ => ⟨he, v, hm⟩
  | none => exact set_new t k x p v w h ht hk (fun e => hf ⟨hk, e⟩)
/-- the frame of a call of Do: the operation's box, then what the table is -/
theorem Moved.trans {w w1 w' : World} {p : Nat} {v v1 v' : Value} {t1 t' : Tab} (a : Moved w w1 p v v1 t1) (b : Moved w1 w' p v1 v' t') : Moved w w' p v v' t' :=
  ⟨b.at_, ⟨b.only.os.trans a.only.os, b.only.tape.trans a.only.tape, b.only.output.trans a.only.output, Nat.le_trans a.only.size b.only.size, fun k hk hs => by
    rw [b.only.block k (Nat.lt_of_lt_of_le hk a.only.size) (fun hh => by
      rcases hh with rfl | hh
      · exact hs (.inl rfl)
      · rcases a.new k hh with h | h
        · exact hs (.inr h)
        · omega)]
    exact a.only.block k hk hs⟩, fun g hg => by
    rcases b.new g hg with h | h
    · exact a.new g h
    · exact .inr (Nat.le_trans a.only.size h)⟩
theorem opCells (w : World) (o : OpT) : (w.alloc (.cells #[.int .i64 o.kind, S o.key, S o.value, S o.old] 69)).cell? ⟨w.heap.size, 0, none⟩ = some (.int .i64 o.kind) ∧
    (w.alloc (.cells #[.int .i64 o.kind, S o.key, S o.value, S o.old] 69)).cell? ⟨w.heap.size, 1, none⟩ = some (S o.key) ∧
    (w.alloc (.cells #[.int .i64 o.kind, S o.key, S o.value, S o.old] 69)).cell? ⟨w.heap.size, 2, none⟩ = some (S o.value) ∧
    (w.alloc (.cells #[.int .i64 o.kind, S o.key, S o.value, S o.old] 69)).cell? ⟨w.heap.size, 3, none⟩ = some (S o.old) :=
  ⟨cell_new w _ _ 0, cell_new w _ _ 1, cell_new w _ _ 2, cell_new w _ _ 3⟩
set_option maxRecDepth 100000 in
theorem do_bad (t : Tab) (o : OpT) (pv : Value) (w : World) (hc : checkT o ≠ 0) :
    Calls Tryd.prog 62 #[pv, opV o] w fun e w' => e = .returned (.tuple #[S (doT t o).2.1, .int .i64 (doT t o).2.2]) ∧ Below w.heap.size w w' := by
  have hb0 := (Below.refl w.heap.size w).alloc (Nat.le_refl _) (.cells #[.int .i64 o.kind, S o.key, S o.value, S o.old] 69)
  obtain ⟨c0, c1, c2, c3⟩ := opCells w o
  have hd : doT t o = (t, [], checkT o) := by unfold doT; rw [if_pos hc]
  have HD := Lib.hid hd; clear hd
  have hce := fun W => check_any o W
  unfold opV at hce ⊢
  obtain ⟨e, he⟩ : ∃ e, e = checkT o := ⟨_, rfl⟩
  rw [← he] at hc hce HD
  clear he
  go_enter Tryd.func62, Tryd.ntmps62
  go_wp2_with (go_at_call 78; refine (hce _).mono ?_; rintro e' w1 ⟨rfl, hb⟩)
  go_ret2
  exact ⟨by rw [HD.out]; rfl, hb0.trans (hb.mono hb0.size)⟩
/-- an operation's box -/
def OpBox (w : World) (b : Nat) (o : OpT) : Prop := w.cell? ⟨b, 0, none⟩ = some (.int .i64 o.kind) ∧ w.cell? ⟨b, 1, none⟩ = some (S o.key) ∧ w.cell? ⟨b, 2, none⟩ = some (S o.value) ∧ w.cell? ⟨b, 3, none⟩ = some (S o.old)
theorem OpBox.only {w w' : World} {S : Nat → Prop} {b : Nat} {o : OpT} (h : OpBox w b o) (ho : Only S w w') (hs : ¬ S b) : OpBox w' b o := by
  have hb := World.block_lt_of_cell? w ⟨b, 0, none⟩ h.1
  exact ⟨(ho.cell (p := ⟨b, 0, none⟩) hb hs).trans h.1, (ho.cell (p := ⟨b, 1, none⟩) hb hs).trans h.2.1, (ho.cell (p := ⟨b, 2, none⟩) hb hs).trans h.2.2.1, (ho.cell (p := ⟨b, 3, none⟩) hb hs).trans h.2.2.2⟩
theorem OpBox.below {w w' : World} {b : Nat} {o : OpT} (h : OpBox w b o) (hb : Below w.heap.size w w') : OpBox w' b o :=
  h.only (Only.of_below hb) (by have := World.block_lt_of_cell? w ⟨b, 0, none⟩ h.1; simp at this; omega)
/-- what Do answers -/
def DoIs (t : Tab) (o : OpT) (p : Nat) (v : Value) (w : World) (e : Ending) (w' : World) : Prop :=
  e = .returned (.tuple #[S (doT t o).2.1, .int .i64 (doT t o).2.2]) ∧ ∃ v', Moved w w' p v v' (doT t o).1
theorem ba_app (a b : Bytes) : (⟨a.toArray⟩ : ByteArray) ++ ⟨b.toArray⟩ = ⟨(a ++ b).toArray⟩ := by apply ByteArray.ext; simp [ByteArray.data_append]
theorem rowsAt_of {w : World} {p g c : Nat} {t : Tab} (h : TableAt w p (.slice (some ⟨g, 0, none⟩) t.length c) t) : RowsAt w g t := by
  obtain ⟨A, c', g', he, _, _, _, hs, hr, hA⟩ := h.slice
  simp only [Value.slice.injEq, true_and] at he
  obtain ⟨rfl, rfl⟩ := he
  rcases hA with h | ⟨h, _⟩
  · cases h
  · cases h; exact hr
theorem rowsAt_of' {w : World} {p g c : Nat} {t : Tab} {A : Option Addr} (h : TableAt w p (.slice A t.length c) t) (hs : t ≠ [] → A = some ⟨g, 0, none⟩) : RowsAt w g t := by
  by_cases e : t = []
  · subst e; intro j hj; simp at hj
  · obtain rfl := hs e; exact rowsAt_of h
set_option maxRecDepth 100000 in
set_option maxHeartbeats 400000 in
theorem do_put_new (t : Tab) (key value old : Bytes) (p : Nat) (v : Value) (w : World) (h : TableAt w p v t) (ht : TabOk t) (hc : checkT (⟨2, key, value, old⟩ : OpT) = 0) (hk : lookT t key = none) (h16 : t.length ≠ 16) :
    Calls Tryd.prog 62 #[.pointer (some ⟨p, 0, none⟩), .agg #[.int .i64 2, S key, S value, S old]] w (DoIs t (⟨2, key, value, old⟩ : OpT) p v w) := by
  have hb0 := (Below.refl w.heap.size w).alloc (Nat.le_refl _) (.cells #[.int .i64 2, S key, S value, S old] 69)
  have ob0 : OpBox (w.alloc (.cells #[.int .i64 2, S key, S value, S old] 69)) w.heap.size (⟨2, key, value, old⟩ : OpT) := opCells w (⟨2, key, value, old⟩ : OpT)
  have hh0 := h.below hb0
  have hfar : ¬ (w.heap.size = p ∨ v.ownBlock = some w.heap.size) := fun hh => by
    rcases hh with hh | hh
    · have := h.lt; omega
    · have := h.own.lt hh; omega
  obtain ⟨A, c, g, rfl, hc1, hc2, hnil, hsome, hr, hA⟩ := h.slice
  have hfew := ht.few
  have hce : ∀ W, Calls Tryd.prog 78 #[.agg #[.int .i64 2, S key, S value, S old]] W fun e w' => e = .returned (.int .i64 0) ∧ Below W.heap.size W w' := fun W => by
    have := check_any (⟨2, key, value, old⟩ : OpT) W
    rw [hc] at this
    exact this
  have HF := Lib.hid (show ¬ (lookT t key = none ∧ t.length = 16) from fun h => h16 h.2)
  have hst : (lookT t key).isSome = false := by rw [hk]; rfl
  have HH := Lib.hid h; have HH0 := Lib.hid hh0; have HT := Lib.hid ht; have HS := Lib.hid hsome; have OB0 := Lib.hid ob0; have HC := Lib.hid hc; have HK := Lib.hid hk; have HCE := Lib.hid hce; have HFAR := Lib.hid hfar
  obtain ⟨c0, c1, c2, c3⟩ := ob0
  dsimp only at c0 c1 c2 c3
  clear h hh0 ht hsome hr hA hnil hc hk hce hfar
  go_enter Tryd.func62, Tryd.ntmps62
  go_wp2_with (first | (go_at_call 78; refine (HCE.out _).mono ?_; rintro e1 w1 ⟨rfl, hb1⟩; clear c0 c1 c2 c3; have HH1 := Lib.hid (HH0.out.below hb1); have OB1 := Lib.hid (OB0.out.below hb1); obtain ⟨c0, c1, c2, c3⟩ := OB1.out; dsimp only at c0 c1 c2 c3; have hb01 := hb0.trans (hb1.mono hb0.size)) | (go_at_call 79; refine (find_any t key _ c g p w1 (HH1.out.row.cell 0) HS.out HT.out (rowsAt_of' HH1.out HS.out)).mono ?_; rintro e2 w2 ⟨rfl, hb2⟩; clear c0 c1 c2 c3; have HH2 := Lib.hid (HH1.out.below hb2); have OB2 := Lib.hid (OB1.out.below hb2); obtain ⟨c0, c1, c2, c3⟩ := OB2.out; dsimp only at c0 c1 c2 c3; have hb02 := hb01.trans (hb2.mono hb01.size); have hp2 : w2.cell? ⟨p, 0, none⟩ = some _ := HH2.out.row.cell 0) | (go_at_call 80; refine (set_any t key value p _ w2 HH2.out HT.out HF.out).mono ?_; rintro e3 w3 ⟨rfl, v3, hm⟩; have HM := Lib.hid hm; clear hm))
  go_ret2
  have e : doT t (⟨2, key, value, old⟩ : OpT) = (setT t key value, [], 0) := by unfold doT; rw [HC.out, if_neg (by simp)]; simp only [if_pos]; rw [if_neg HF.out, HK.out]; rfl
  unfold DoIs
  rw [e]
  exact ⟨rfl, v3, Moved.ofBelow hb02 HM.out⟩
set_option maxRecDepth 100000 in
set_option maxHeartbeats 400000 in
theorem do_put_full (t : Tab) (key value old : Bytes) (p : Nat) (v : Value) (w : World) (h : TableAt w p v t) (ht : TabOk t) (hc : checkT (⟨2, key, value, old⟩ : OpT) = 0) (hk : lookT t key = none) (h16 : t.length = 16) :
    Calls Tryd.prog 62 #[.pointer (some ⟨p, 0, none⟩), .agg #[.int .i64 2, S key, S value, S old]] w (DoIs t (⟨2, key, value, old⟩ : OpT) p v w) := by
  have hb0 := (Below.refl w.heap.size w).alloc (Nat.le_refl _) (.cells #[.int .i64 2, S key, S value, S old] 69)
  have ob0 : OpBox (w.alloc (.cells #[.int .i64 2, S key, S value, S old] 69)) w.heap.size (⟨2, key, value, old⟩ : OpT) := opCells w (⟨2, key, value, old⟩ : OpT)
  have hh0 := h.below hb0
  have hfar : ¬ (w.heap.size = p ∨ v.ownBlock = some w.heap.size) := fun hh => by
    rcases hh with hh | hh
    · have := h.lt; omega
    · have := h.own.lt hh; omega
  obtain ⟨A, c, g, rfl, hc1, hc2, hnil, hsome, hr, hA⟩ := h.slice
  have hfew := ht.few
  have hce : ∀ W, Calls Tryd.prog 78 #[.agg #[.int .i64 2, S key, S value, S old]] W fun e w' => e = .returned (.int .i64 0) ∧ Below W.heap.size W w' := fun W => by
    have := check_any (⟨2, key, value, old⟩ : OpT) W
    rw [hc] at this
    exact this
  have HF := Lib.hid h16
  clear h16
  have hst : (lookT t key).isSome = false := by rw [hk]; rfl
  have HH := Lib.hid h; have HH0 := Lib.hid hh0; have HT := Lib.hid ht; have HS := Lib.hid hsome; have OB0 := Lib.hid ob0; have HC := Lib.hid hc; have HK := Lib.hid hk; have HCE := Lib.hid hce; have HFAR := Lib.hid hfar
  obtain ⟨c0, c1, c2, c3⟩ := ob0
  dsimp only at c0 c1 c2 c3
  clear h hh0 ht hsome hr hA hnil hc hk hce hfar
  go_enter Tryd.func62, Tryd.ntmps62
  go_wp2_with (first | (go_at_call 78; refine (HCE.out _).mono ?_; rintro e1 w1 ⟨rfl, hb1⟩; clear c0 c1 c2 c3; have HH1 := Lib.hid (HH0.out.below hb1); have OB1 := Lib.hid (OB0.out.below hb1); obtain ⟨c0, c1, c2, c3⟩ := OB1.out; dsimp only at c0 c1 c2 c3; have hb01 := hb0.trans (hb1.mono hb0.size)) | (go_at_call 79; refine (find_any t key _ c g p w1 (HH1.out.row.cell 0) HS.out HT.out (rowsAt_of' HH1.out HS.out)).mono ?_; rintro e2 w2 ⟨rfl, hb2⟩; clear c0 c1 c2 c3; have HH2 := Lib.hid (HH1.out.below hb2); have OB2 := Lib.hid (OB1.out.below hb2); obtain ⟨c0, c1, c2, c3⟩ := OB2.out; dsimp only at c0 c1 c2 c3; have hb02 := hb01.trans (hb2.mono hb01.size); have hp2 : w2.cell? ⟨p, 0, none⟩ = some _ := HH2.out.row.cell 0) | (go_at_call 80; refine (set_full t key value p _ w2 HH2.out HT.out HK.out HF.out).mono ?_; rintro e3 w3 ⟨rfl, hb3⟩))
  go_ret2
  have e : doT t (⟨2, key, value, old⟩ : OpT) = (t, [], 5) := by unfold doT; rw [HC.out, if_neg (by simp)]; simp only [if_pos]; rw [if_pos ⟨HK.out, HF.out⟩]
  unfold DoIs
  rw [e]
  exact ⟨rfl, _, Moved.ofBelow (hb02.trans (hb3.mono hb02.size)) (Moved.refl (HH2.out.below hb3))⟩
set_option maxRecDepth 100000 in
set_option maxHeartbeats 400000 in
theorem do_put_old (t : Tab) (key value old : Bytes) (p : Nat) (v : Value) (w : World) (h : TableAt w p v t) (ht : TabOk t) (hc : checkT (⟨2, key, value, old⟩ : OpT) = 0) (u : Bytes) (hk : lookT t key = some u) :
    Calls Tryd.prog 62 #[.pointer (some ⟨p, 0, none⟩), .agg #[.int .i64 2, S key, S value, S old]] w (DoIs t (⟨2, key, value, old⟩ : OpT) p v w) := by
  have hb0 := (Below.refl w.heap.size w).alloc (Nat.le_refl _) (.cells #[.int .i64 2, S key, S value, S old] 69)
  have ob0 : OpBox (w.alloc (.cells #[.int .i64 2, S key, S value, S old] 69)) w.heap.size (⟨2, key, value, old⟩ : OpT) := opCells w (⟨2, key, value, old⟩ : OpT)
  have hh0 := h.below hb0
  have hfar : ¬ (w.heap.size = p ∨ v.ownBlock = some w.heap.size) := fun hh => by
    rcases hh with hh | hh
    · have := h.lt; omega
    · have := h.own.lt hh; omega
  obtain ⟨A, c, g, rfl, hc1, hc2, hnil, hsome, hr, hA⟩ := h.slice
  have hfew := ht.few
  have hce : ∀ W, Calls Tryd.prog 78 #[.agg #[.int .i64 2, S key, S value, S old]] W fun e w' => e = .returned (.int .i64 0) ∧ Below W.heap.size W w' := fun W => by
    have := check_any (⟨2, key, value, old⟩ : OpT) W
    rw [hc] at this
    exact this
  have HF := Lib.hid (show ¬ (lookT t key = none ∧ t.length = 16) from fun h => by rw [hk] at h; cases h.1)
  have hs := look_some hk
  obtain ⟨hlt, hv⟩ := List.getElem?_eq_some_iff.1 hs
  have hne : t ≠ [] := by intro e; subst e; simp at hlt
  obtain rfl := hsome hne
  have hst : (lookT t key).isSome = true := by rw [hk]; rfl
  have HH := Lib.hid h; have HH0 := Lib.hid hh0; have HT := Lib.hid ht; have HS := Lib.hid hsome; have OB0 := Lib.hid ob0; have HC := Lib.hid hc; have HK := Lib.hid hk; have HCE := Lib.hid hce; have HFAR := Lib.hid hfar
  obtain ⟨c0, c1, c2, c3⟩ := ob0
  dsimp only at c0 c1 c2 c3
  clear h hh0 ht hsome hr hA hnil hc hk hce hfar
  have HV := Lib.hid hv; have HSS := Lib.hid hs
  clear hv hs
  go_enter Tryd.func62, Tryd.ntmps62
  go_wp2_with (first | (go_at_call 78; refine (HCE.out _).mono ?_; rintro e1 w1 ⟨rfl, hb1⟩; clear c0 c1 c2 c3; have HH1 := Lib.hid (HH0.out.below hb1); have OB1 := Lib.hid (OB0.out.below hb1); obtain ⟨c0, c1, c2, c3⟩ := OB1.out; dsimp only at c0 c1 c2 c3; have hb01 := hb0.trans (hb1.mono hb0.size)) | (go_at_call 79; refine (find_any t key _ c g p w1 (HH1.out.row.cell 0) (fun _ => rfl) HT.out (rowsAt_of HH1.out)).mono ?_; rintro e2 w2 ⟨rfl, hb2⟩; clear c0 c1 c2 c3; have HH2 := Lib.hid (HH1.out.below hb2); have OB2 := Lib.hid (OB1.out.below hb2); obtain ⟨c0, c1, c2, c3⟩ := OB2.out; dsimp only at c0 c1 c2 c3; have hb02 := hb01.trans (hb2.mono hb01.size); have hp2 : w2.cell? ⟨p, 0, none⟩ = some _ := HH2.out.row.cell 0; obtain ⟨hq1, hq2⟩ := (rowsAt_of HH2.out) _ hlt; rw [HV.out] at hq1 hq2; dsimp only at hq1 hq2) | (go_at_call 80; refine (set_any t key value p _ w2 HH2.out HT.out HF.out).mono ?_; rintro e3 w3 ⟨rfl, v3, hm⟩; have HM := Lib.hid hm; clear hm))
  go_ret2
  have e : doT t (⟨2, key, value, old⟩ : OpT) = (setT t key value, u, 0) := by unfold doT; rw [HC.out, if_neg (by simp)]; simp only [if_pos]; rw [if_neg HF.out, HK.out]; rfl
  unfold DoIs
  rw [e]
  exact ⟨rfl, v3, Moved.ofBelow hb02 HM.out⟩
set_option maxRecDepth 100000 in
set_option maxHeartbeats 400000 in
theorem do_app_full (t : Tab) (key value old : Bytes) (p : Nat) (v : Value) (w : World) (h : TableAt w p v t) (ht : TabOk t) (hc : checkT (⟨3, key, value, old⟩ : OpT) = 0) (hk : lookT t key = none) (h16 : t.length = 16) :
    Calls Tryd.prog 62 #[.pointer (some ⟨p, 0, none⟩), .agg #[.int .i64 3, S key, S value, S old]] w (DoIs t (⟨3, key, value, old⟩ : OpT) p v w) := by
  have hb0 := (Below.refl w.heap.size w).alloc (Nat.le_refl _) (.cells #[.int .i64 3, S key, S value, S old] 69)
  have ob0 : OpBox (w.alloc (.cells #[.int .i64 3, S key, S value, S old] 69)) w.heap.size (⟨3, key, value, old⟩ : OpT) := opCells w (⟨3, key, value, old⟩ : OpT)
  have hh0 := h.below hb0
  have hfar : ¬ (w.heap.size = p ∨ v.ownBlock = some w.heap.size) := fun hh => by
    rcases hh with hh | hh
    · have := h.lt; omega
    · have := h.own.lt hh; omega
  obtain ⟨A, c, g, rfl, hc1, hc2, hnil, hsome, hr, hA⟩ := h.slice
  have hfew := ht.few
  have hce : ∀ W, Calls Tryd.prog 78 #[.agg #[.int .i64 3, S key, S value, S old]] W fun e w' => e = .returned (.int .i64 0) ∧ Below W.heap.size W w' := fun W => by
    have := check_any (⟨3, key, value, old⟩ : OpT) W
    rw [hc] at this
    exact this
  have h16i : (t.length : Int) = 16 := by omega
  have HF := Lib.hid h16
  clear h16
  have hst : (lookT t key).isSome = false := by rw [hk]; rfl
  have HH := Lib.hid h; have HH0 := Lib.hid hh0; have HT := Lib.hid ht; have HS := Lib.hid hsome; have OB0 := Lib.hid ob0; have HC := Lib.hid hc; have HK := Lib.hid hk; have HCE := Lib.hid hce; have HFAR := Lib.hid hfar
  obtain ⟨c0, c1, c2, c3⟩ := ob0
  dsimp only at c0 c1 c2 c3
  clear h hh0 ht hsome hr hA hnil hc hk hce hfar
  go_enter Tryd.func62, Tryd.ntmps62
  go_wp2_with (first | (go_at_call 78; refine (HCE.out _).mono ?_; rintro e1 w1 ⟨rfl, hb1⟩; clear c0 c1 c2 c3; have HH1 := Lib.hid (HH0.out.below hb1); have OB1 := Lib.hid (OB0.out.below hb1); obtain ⟨c0, c1, c2, c3⟩ := OB1.out; dsimp only at c0 c1 c2 c3; have hb01 := hb0.trans (hb1.mono hb0.size)) | (go_at_call 79; refine (find_any t key _ c g p w1 (HH1.out.row.cell 0) HS.out HT.out (rowsAt_of' HH1.out HS.out)).mono ?_; rintro e2 w2 ⟨rfl, hb2⟩; clear c0 c1 c2 c3; have HH2 := Lib.hid (HH1.out.below hb2); have OB2 := Lib.hid (OB1.out.below hb2); obtain ⟨c0, c1, c2, c3⟩ := OB2.out; dsimp only at c0 c1 c2 c3; have hb02 := hb01.trans (hb2.mono hb01.size); have hp2 : w2.cell? ⟨p, 0, none⟩ = some _ := HH2.out.row.cell 0))
  go_ret2
  have e : doT t (⟨3, key, value, old⟩ : OpT) = (t, [], 5) := by unfold doT; rw [HC.out, if_neg (by simp)]; simp only [show ¬ (3 : Int) = 2 by decide, if_false, if_pos]; rw [if_pos ⟨HK.out, HF.out⟩]
  unfold DoIs
  rw [e]
  exact ⟨rfl, _, Moved.ofBelow hb02 (Moved.refl HH2.out)⟩
end Go.Proofs.YtocgnkenlfdffaaDoor
