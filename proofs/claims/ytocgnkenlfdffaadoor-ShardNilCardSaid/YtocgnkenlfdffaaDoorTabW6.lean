/- package table: Do, of an append. -/
import Derived.Test.YtocgnkenlfdffaaDoorTabW5
namespace Go.Proofs.YtocgnkenlfdffaaDoor
open Go Go.RowKit Go.Wap
set_option maxRecDepth 100000 in
set_option maxHeartbeats 400000 in
theorem do_app_long (t : Tab) (key value old : Bytes) (p : Nat) (v : Value) (w : World) (h : TableAt w p v t) (ht : TabOk t) (hc : checkT (⟨3, key, value, old⟩ : OpT) = 0) (u : Bytes) (hk : lookT t key = some u) (hl : 64 < (u ++ value).length) :
    Calls Tryd.prog 62 #[.pointer (some ⟨p, 0, none⟩), .agg #[.int .i64 3, S key, S value, S old]] w (DoIs t (⟨3, key, value, old⟩ : OpT) p v w) := by
  have hb0 := (Below.refl w.heap.size w).alloc (Nat.le_refl _) (.cells #[.int .i64 3, S key, S value, S old] 69)
  have ob0 : OpBox (w.alloc (.cells #[.int .i64 3, S key, S value, S old] 69)) w.heap.size (⟨3, key, value, old⟩ : OpT) := opCells w (⟨3, key, value, old⟩ : OpT)
  have hh0 := h.below hb0
  have hfar : ¬ (w.heap.size = p ∨ v.ownBlock = some w.heap.size) := fun hh => by
    rcases hh with hh | hh
    · have := h.lt; omega
    · have := h.own.lt hh; omega
  obtain ⟨A, c, g, rfl, hc1, hc2, hnil, hsome, hr, hA⟩ := h.slice
  have hfew := ht.few
  have hce : ∀ W, Calls Tryd.prog 78 #[.agg #[.int .i64 3, S key, S value, S old]] W fun e w' => e = .returned (.int .i64 0) ∧ Below W.heap.size W w' := fun W => by
    have := check_any (⟨3, key, value, old⟩ : OpT) W
    rw [hc] at this
    exact this
  have hv64 : value.length ≤ 64 := (checkT_zero hc).2.2.2.2.1
  have hu64 : u.length ≤ 64 := by have := look_len ht key; rw [hk] at this; exact this
  have hcat := ba_app u value
  have hsz1 : (⟨u.toArray⟩ : ByteArray).size = u.length := by show Array.size _ = _; simp
  have hsz2 : (⟨value.toArray⟩ : ByteArray).size = value.length := by show Array.size _ = _; simp
  have hlong : ¬ (u.length + value.length ≤ 64) := by rw [List.length_append] at hl; omega
  have HLL := Lib.hid hl
  clear hl
  have hs := look_some hk
  obtain ⟨hlt, hv⟩ := List.getElem?_eq_some_iff.1 hs
  have hne : t ≠ [] := by intro e; subst e; simp at hlt
  obtain rfl := hsome hne
  have hst : (lookT t key).isSome = true := by rw [hk]; rfl
  have HH := Lib.hid h; have HH0 := Lib.hid hh0; have HT := Lib.hid ht; have HS := Lib.hid hsome; have OB0 := Lib.hid ob0; have HC := Lib.hid hc; have HK := Lib.hid hk; have HCE := Lib.hid hce; have HFAR := Lib.hid hfar
  obtain ⟨c0, c1, c2, c3⟩ := ob0
  dsimp only at c0 c1 c2 c3
  clear h hh0 ht hsome hr hA hnil hc hk hce hfar
  have HV := Lib.hid hv; have HSS := Lib.hid hs
  clear hv hs
  go_enter Tryd.func62, Tryd.ntmps62
  go_wp2_with (first | (go_at_call 78; refine (HCE.out _).mono ?_; rintro e1 w1 ⟨rfl, hb1⟩; clear c0 c1 c2 c3; have HH1 := Lib.hid (HH0.out.below hb1); have OB1 := Lib.hid (OB0.out.below hb1); obtain ⟨c0, c1, c2, c3⟩ := OB1.out; dsimp only at c0 c1 c2 c3; have hb01 := hb0.trans (hb1.mono hb0.size)) | (go_at_call 79; refine (find_any t key _ c g p w1 (HH1.out.row.cell 0) (fun _ => rfl) HT.out (rowsAt_of HH1.out)).mono ?_; rintro e2 w2 ⟨rfl, hb2⟩; clear c0 c1 c2 c3; have HH2 := Lib.hid (HH1.out.below hb2); have OB2 := Lib.hid (OB1.out.below hb2); obtain ⟨c0, c1, c2, c3⟩ := OB2.out; dsimp only at c0 c1 c2 c3; have hb02 := hb01.trans (hb2.mono hb01.size); have hp2 : w2.cell? ⟨p, 0, none⟩ = some _ := HH2.out.row.cell 0; obtain ⟨hq1, hq2⟩ := (rowsAt_of HH2.out) _ hlt; rw [HV.out] at hq1 hq2; dsimp only at hq1 hq2) | (go_at_call 81; refine (value_any (u ++ value) _).mono ?_; rintro e4 w4 ⟨rfl, rfl⟩))
  go_ret2
  have e : doT t (⟨3, key, value, old⟩ : OpT) = (t, [], 2) := by unfold doT; rw [HC.out, if_neg (by simp)]; simp only [show ¬ (3 : Int) = 2 by decide, if_false, if_pos]; rw [HK.out]; simp only [Option.getD_some]; rw [if_neg (by simp), if_pos HLL.out]
  unfold DoIs
  rw [e]
  exact ⟨rfl, _, Moved.ofBelow hb02 (Moved.refl HH2.out)⟩
set_option maxRecDepth 100000 in
set_option maxHeartbeats 400000 in
theorem do_app_old (t : Tab) (key value old : Bytes) (p : Nat) (v : Value) (w : World) (h : TableAt w p v t) (ht : TabOk t) (hc : checkT (⟨3, key, value, old⟩ : OpT) = 0) (u : Bytes) (hk : lookT t key = some u) (hl : ¬ 64 < (u ++ value).length) :
    Calls Tryd.prog 62 #[.pointer (some ⟨p, 0, none⟩), .agg #[.int .i64 3, S key, S value, S old]] w (DoIs t (⟨3, key, value, old⟩ : OpT) p v w) := by
  have hb0 := (Below.refl w.heap.size w).alloc (Nat.le_refl _) (.cells #[.int .i64 3, S key, S value, S old] 69)
  have ob0 : OpBox (w.alloc (.cells #[.int .i64 3, S key, S value, S old] 69)) w.heap.size (⟨3, key, value, old⟩ : OpT) := opCells w (⟨3, key, value, old⟩ : OpT)
  have hh0 := h.below hb0
  have hfar : ¬ (w.heap.size = p ∨ v.ownBlock = some w.heap.size) := fun hh => by
    rcases hh with hh | hh
    · have := h.lt; omega
    · have := h.own.lt hh; omega
  obtain ⟨A, c, g, rfl, hc1, hc2, hnil, hsome, hr, hA⟩ := h.slice
  have hfew := ht.few
  have hce : ∀ W, Calls Tryd.prog 78 #[.agg #[.int .i64 3, S key, S value, S old]] W fun e w' => e = .returned (.int .i64 0) ∧ Below W.heap.size W w' := fun W => by
    have := check_any (⟨3, key, value, old⟩ : OpT) W
    rw [hc] at this
    exact this
  have HF := Lib.hid (show ¬ (lookT t key = none ∧ t.length = 16) from fun h => by rw [hk] at h; cases h.1)
  have hv64 : value.length ≤ 64 := (checkT_zero hc).2.2.2.2.1
  have hu64 : u.length ≤ 64 := by have := look_len ht key; rw [hk] at this; exact this
  have hcat := ba_app u value
  have hsz1 : (⟨u.toArray⟩ : ByteArray).size = u.length := by show Array.size _ = _; simp
  have hsz2 : (⟨value.toArray⟩ : ByteArray).size = value.length := by show Array.size _ = _; simp
  have hshort : u.length + value.length ≤ 64 := by rw [List.length_append] at hl; omega
  have HLL := Lib.hid hl
  clear hl
  have hs := look_some hk
  obtain ⟨hlt, hv⟩ := List.getElem?_eq_some_iff.1 hs
  have hne : t ≠ [] := by intro e; subst e; simp at hlt
  obtain rfl := hsome hne
  have hst : (lookT t key).isSome = true := by rw [hk]; rfl
  have HH := Lib.hid h; have HH0 := Lib.hid hh0; have HT := Lib.hid ht; have HS := Lib.hid hsome; have OB0 := Lib.hid ob0; have HC := Lib.hid hc; have HK := Lib.hid hk; have HCE := Lib.hid hce; have HFAR := Lib.hid hfar
  obtain ⟨c0, c1, c2, c3⟩ := ob0
  dsimp only at c0 c1 c2 c3
  clear h hh0 ht hsome hr hA hnil hc hk hce hfar
  have HV := Lib.hid hv; have HSS := Lib.hid hs
  clear hv hs
  go_enter Tryd.func62, Tryd.ntmps62
  go_wp2_with (first | (go_at_call 78; refine (HCE.out _).mono ?_; rintro e1 w1 ⟨rfl, hb1⟩; clear c0 c1 c2 c3; have HH1 := Lib.hid (HH0.out.below hb1); have OB1 := Lib.hid (OB0.out.below hb1); obtain ⟨c0, c1, c2, c3⟩ := OB1.out; dsimp only at c0 c1 c2 c3; have hb01 := hb0.trans (hb1.mono hb0.size)) | (go_at_call 79; refine (find_any t key _ c g p w1 (HH1.out.row.cell 0) (fun _ => rfl) HT.out (rowsAt_of HH1.out)).mono ?_; rintro e2 w2 ⟨rfl, hb2⟩; clear c0 c1 c2 c3; have HH2 := Lib.hid (HH1.out.below hb2); have OB2 := Lib.hid (OB1.out.below hb2); obtain ⟨c0, c1, c2, c3⟩ := OB2.out; dsimp only at c0 c1 c2 c3; have hb02 := hb01.trans (hb2.mono hb01.size); have hp2 : w2.cell? ⟨p, 0, none⟩ = some _ := HH2.out.row.cell 0; obtain ⟨hq1, hq2⟩ := (rowsAt_of HH2.out) _ hlt; rw [HV.out] at hq1 hq2; dsimp only at hq1 hq2) | (go_at_call 81; refine (value_any (u ++ value) _).mono ?_; rintro e4 w4 ⟨rfl, rfl⟩) | (go_at_call 80; refine (set_any t key (u ++ value) p _ w2 HH2.out HT.out HF.out).mono ?_; rintro e3 w3 ⟨rfl, v3, hm⟩; have HM := Lib.hid hm; clear c0 c1 c2 c3; obtain ⟨c0, c1, c2, c3⟩ := OB2.out.only hm.only HFAR.out; dsimp only at c0 c1 c2 c3; clear hm))
  go_ret2
  have e : doT t (⟨3, key, value, old⟩ : OpT) = (setT t key (u ++ value), u ++ value, 0) := by unfold doT; rw [HC.out, if_neg (by simp)]; simp only [show ¬ (3 : Int) = 2 by decide, if_false, if_pos]; rw [if_neg HF.out, HK.out]; simp only [Option.getD_some]; rw [if_neg HLL.out]
  unfold DoIs
  rw [e]
  exact ⟨rfl, v3, Moved.ofBelow hb02 HM.out⟩
set_option maxRecDepth 100000 in
set_option maxHeartbeats 400000 in
theorem do_app_new (t : Tab) (key value old : Bytes) (p : Nat) (v : Value) (w : World) (h : TableAt w p v t) (ht : TabOk t) (hc : checkT (⟨3, key, value, old⟩ : OpT) = 0) (hk : lookT t key = none) (h16 : t.length ≠ 16) :
    Calls Tryd.prog 62 #[.pointer (some ⟨p, 0, none⟩), .agg #[.int .i64 3, S key, S value, S old]] w (DoIs t (⟨3, key, value, old⟩ : OpT) p v w) := by
  have hb0 := (Below.refl w.heap.size w).alloc (Nat.le_refl _) (.cells #[.int .i64 3, S key, S value, S old] 69)
  have ob0 : OpBox (w.alloc (.cells #[.int .i64 3, S key, S value, S old] 69)) w.heap.size (⟨3, key, value, old⟩ : OpT) := opCells w (⟨3, key, value, old⟩ : OpT)
  have hh0 := h.below hb0
  have hfar : ¬ (w.heap.size = p ∨ v.ownBlock = some w.heap.size) := fun hh => by
    rcases hh with hh | hh
    · have := h.lt; omega
    · have := h.own.lt hh; omega
  obtain ⟨A, c, g, rfl, hc1, hc2, hnil, hsome, hr, hA⟩ := h.slice
  have hfew := ht.few
  have hce : ∀ W, Calls Tryd.prog 78 #[.agg #[.int .i64 3, S key, S value, S old]] W fun e w' => e = .returned (.int .i64 0) ∧ Below W.heap.size W w' := fun W => by
    have := check_any (⟨3, key, value, old⟩ : OpT) W
    rw [hc] at this
    exact this
  have HF := Lib.hid (show ¬ (lookT t key = none ∧ t.length = 16) from fun h => h16 h.2)
  have hv64 : value.length ≤ 64 := (checkT_zero hc).2.2.2.2.1
  have hsz2 : (⟨value.toArray⟩ : ByteArray).size = value.length := by show Array.size _ = _; simp
  have hcat : (⟨#[]⟩ : ByteArray) ++ ⟨value.toArray⟩ = ⟨value.toArray⟩ := ba_app [] value
  have h16i : ¬ (t.length : Int) = 16 := by omega
  have hst : (lookT t key).isSome = false := by rw [hk]; rfl
  have HH := Lib.hid h; have HH0 := Lib.hid hh0; have HT := Lib.hid ht; have HS := Lib.hid hsome; have OB0 := Lib.hid ob0; have HC := Lib.hid hc; have HK := Lib.hid hk; have HCE := Lib.hid hce; have HFAR := Lib.hid hfar
  obtain ⟨c0, c1, c2, c3⟩ := ob0
  dsimp only at c0 c1 c2 c3
  clear h hh0 ht hsome hr hA hnil hc hk hce hfar
  go_enter Tryd.func62, Tryd.ntmps62
  go_wp2_with (first | (go_at_call 78; refine (HCE.out _).mono ?_; rintro e1 w1 ⟨rfl, hb1⟩; clear c0 c1 c2 c3; have HH1 := Lib.hid (HH0.out.below hb1); have OB1 := Lib.hid (OB0.out.below hb1); obtain ⟨c0, c1, c2, c3⟩ := OB1.out; dsimp only at c0 c1 c2 c3; have hb01 := hb0.trans (hb1.mono hb0.size)) | (go_at_call 79; refine (find_any t key _ c g p w1 (HH1.out.row.cell 0) HS.out HT.out (rowsAt_of' HH1.out HS.out)).mono ?_; rintro e2 w2 ⟨rfl, hb2⟩; clear c0 c1 c2 c3; have HH2 := Lib.hid (HH1.out.below hb2); have OB2 := Lib.hid (OB1.out.below hb2); obtain ⟨c0, c1, c2, c3⟩ := OB2.out; dsimp only at c0 c1 c2 c3; have hb02 := hb01.trans (hb2.mono hb01.size); have hp2 : w2.cell? ⟨p, 0, none⟩ = some _ := HH2.out.row.cell 0) | (go_at_call 81; refine (value_any value _).mono ?_; rintro e4 w4 ⟨rfl, rfl⟩) | (go_at_call 80; refine (set_any t key value p _ w2 HH2.out HT.out HF.out).mono ?_; rintro e3 w3 ⟨rfl, v3, hm⟩; have HM := Lib.hid hm; clear c0 c1 c2 c3; obtain ⟨c0, c1, c2, c3⟩ := OB2.out.only hm.only HFAR.out; dsimp only at c0 c1 c2 c3; clear hm))
  go_ret2
  have e : doT t (⟨3, key, value, old⟩ : OpT) = (setT t key value, value, 0) := by unfold doT; rw [HC.out, if_neg (by simp)]; simp only [show ¬ (3 : Int) = 2 by decide, if_false, if_pos]; rw [if_neg HF.out, HK.out]; simp only [Option.getD_none, List.nil_append]; rw [if_neg (by omega)]
  unfold DoIs
  rw [e]
  exact ⟨rfl, v3, Moved.ofBelow hb02 HM.out⟩
set_option maxRecDepth 100000 in
set_option maxHeartbeats 400000 in
theorem do_none1 (t : Tab) (key value old : Bytes) (p : Nat) (v : Value) (w : World) (h : TableAt w p v t) (ht : TabOk t) (hc : checkT (⟨1, key, value, old⟩ : OpT) = 0) (hk : lookT t key = none) :
    Calls Tryd.prog 62 #[.pointer (some ⟨p, 0, none⟩), .agg #[.int .i64 1, S key, S value, S old]] w (DoIs t (⟨1, key, value, old⟩ : OpT) p v w) := by
  have hb0 := (Below.refl w.heap.size w).alloc (Nat.le_refl _) (.cells #[.int .i64 1, S key, S value, S old] 69)
  have ob0 : OpBox (w.alloc (.cells #[.int .i64 1, S key, S value, S old] 69)) w.heap.size (⟨1, key, value, old⟩ : OpT) := opCells w (⟨1, key, value, old⟩ : OpT)
  have hh0 := h.below hb0
  have hfar : ¬ (w.heap.size = p ∨ v.ownBlock = some w.heap.size) := fun hh => by
    rcases hh with hh | hh
    · have := h.lt; omega
    · have := h.own.lt hh; omega
  obtain ⟨A, c, g, rfl, hc1, hc2, hnil, hsome, hr, hA⟩ := h.slice
  have hfew := ht.few
  have hce : ∀ W, Calls Tryd.prog 78 #[.agg #[.int .i64 1, S key, S value, S old]] W fun e w' => e = .returned (.int .i64 0) ∧ Below W.heap.size W w' := fun W => by
    have := check_any (⟨1, key, value, old⟩ : OpT) W
    rw [hc] at this
    exact this
  have hst : (lookT t key).isSome = false := by rw [hk]; rfl
  have HH := Lib.hid h; have HH0 := Lib.hid hh0; have HT := Lib.hid ht; have HS := Lib.hid hsome; have OB0 := Lib.hid ob0; have HC := Lib.hid hc; have HK := Lib.hid hk; have HCE := Lib.hid hce; have HFAR := Lib.hid hfar
  obtain ⟨c0, c1, c2, c3⟩ := ob0
  dsimp only at c0 c1 c2 c3
  clear h hh0 ht hsome hr hA hnil hc hk hce hfar
  go_enter Tryd.func62, Tryd.ntmps62
  go_wp2_with (first | (go_at_call 78; refine (HCE.out _).mono ?_; rintro e1 w1 ⟨rfl, hb1⟩; clear c0 c1 c2 c3; have HH1 := Lib.hid (HH0.out.below hb1); have OB1 := Lib.hid (OB0.out.below hb1); obtain ⟨c0, c1, c2, c3⟩ := OB1.out; dsimp only at c0 c1 c2 c3; have hb01 := hb0.trans (hb1.mono hb0.size)) | (go_at_call 79; refine (find_any t key _ c g p w1 (HH1.out.row.cell 0) HS.out HT.out (rowsAt_of' HH1.out HS.out)).mono ?_; rintro e2 w2 ⟨rfl, hb2⟩; clear c0 c1 c2 c3; have HH2 := Lib.hid (HH1.out.below hb2); have OB2 := Lib.hid (OB1.out.below hb2); obtain ⟨c0, c1, c2, c3⟩ := OB2.out; dsimp only at c0 c1 c2 c3; have hb02 := hb01.trans (hb2.mono hb01.size); have hp2 : w2.cell? ⟨p, 0, none⟩ = some _ := HH2.out.row.cell 0))
  go_ret2
  have e : doT t (⟨1, key, value, old⟩ : OpT) = (t, [], 6) := by unfold doT; rw [HC.out, if_neg (by simp)]; simp only [show ¬ (1 : Int) = 2 by decide, show ¬ (1 : Int) = 3 by decide, if_false]; rw [if_pos HK.out]
  unfold DoIs
  rw [e]
  exact ⟨rfl, _, Moved.ofBelow hb02 (Moved.refl HH2.out)⟩
set_option maxRecDepth 100000 in
set_option maxHeartbeats 400000 in
theorem do_none4 (t : Tab) (key value old : Bytes) (p : Nat) (v : Value) (w : World) (h : TableAt w p v t) (ht : TabOk t) (hc : checkT (⟨4, key, value, old⟩ : OpT) = 0) (hk : lookT t key = none) :
    Calls Tryd.prog 62 #[.pointer (some ⟨p, 0, none⟩), .agg #[.int .i64 4, S key, S value, S old]] w (DoIs t (⟨4, key, value, old⟩ : OpT) p v w) := by
  have hb0 := (Below.refl w.heap.size w).alloc (Nat.le_refl _) (.cells #[.int .i64 4, S key, S value, S old] 69)
  have ob0 : OpBox (w.alloc (.cells #[.int .i64 4, S key, S value, S old] 69)) w.heap.size (⟨4, key, value, old⟩ : OpT) := opCells w (⟨4, key, value, old⟩ : OpT)
  have hh0 := h.below hb0
  have hfar : ¬ (w.heap.size = p ∨ v.ownBlock = some w.heap.size) := fun hh => by
    rcases hh with hh | hh
    · have := h.lt; omega
    · have := h.own.lt hh; omega
  obtain ⟨A, c, g, rfl, hc1, hc2, hnil, hsome, hr, hA⟩ := h.slice
  have hfew := ht.few
  have hce : ∀ W, Calls Tryd.prog 78 #[.agg #[.int .i64 4, S key, S value, S old]] W fun e w' => e = .returned (.int .i64 0) ∧ Below W.heap.size W w' := fun W => by
    have := check_any (⟨4, key, value, old⟩ : OpT) W
    rw [hc] at this
    exact this
  have hst : (lookT t key).isSome = false := by rw [hk]; rfl
  have HH := Lib.hid h; have HH0 := Lib.hid hh0; have HT := Lib.hid ht; have HS := Lib.hid hsome; have OB0 := Lib.hid ob0; have HC := Lib.hid hc; have HK := Lib.hid hk; have HCE := Lib.hid hce; have HFAR := Lib.hid hfar
  obtain ⟨c0, c1, c2, c3⟩ := ob0
  dsimp only at c0 c1 c2 c3
  clear h hh0 ht hsome hr hA hnil hc hk hce hfar
  go_enter Tryd.func62, Tryd.ntmps62
  go_wp2_with (first | (go_at_call 78; refine (HCE.out _).mono ?_; rintro e1 w1 ⟨rfl, hb1⟩; clear c0 c1 c2 c3; have HH1 := Lib.hid (HH0.out.below hb1); have OB1 := Lib.hid (OB0.out.below hb1); obtain ⟨c0, c1, c2, c3⟩ := OB1.out; dsimp only at c0 c1 c2 c3; have hb01 := hb0.trans (hb1.mono hb0.size)) | (go_at_call 79; refine (find_any t key _ c g p w1 (HH1.out.row.cell 0) HS.out HT.out (rowsAt_of' HH1.out HS.out)).mono ?_; rintro e2 w2 ⟨rfl, hb2⟩; clear c0 c1 c2 c3; have HH2 := Lib.hid (HH1.out.below hb2); have OB2 := Lib.hid (OB1.out.below hb2); obtain ⟨c0, c1, c2, c3⟩ := OB2.out; dsimp only at c0 c1 c2 c3; have hb02 := hb01.trans (hb2.mono hb01.size); have hp2 : w2.cell? ⟨p, 0, none⟩ = some _ := HH2.out.row.cell 0))
  go_ret2
  have e : doT t (⟨4, key, value, old⟩ : OpT) = (t, [], 6) := by unfold doT; rw [HC.out, if_neg (by simp)]; simp only [show ¬ (4 : Int) = 2 by decide, show ¬ (4 : Int) = 3 by decide, if_false]; rw [if_pos HK.out]
  unfold DoIs
  rw [e]
  exact ⟨rfl, _, Moved.ofBelow hb02 (Moved.refl HH2.out)⟩
set_option maxRecDepth 100000 in
set_option maxHeartbeats 400000 in
theorem do_none5 (t : Tab) (key value old : Bytes) (p : Nat) (v : Value) (w : World) (h : TableAt w p v t) (ht : TabOk t) (hc : checkT (⟨5, key, value, old⟩ : OpT) = 0) (hk : lookT t key = none) :
    Calls Tryd.prog 62 #[.pointer (some ⟨p, 0, none⟩), .agg #[.int .i64 5, S key, S value, S old]] w (DoIs t (⟨5, key, value, old⟩ : OpT) p v w) := by
  have hb0 := (Below.refl w.heap.size w).alloc (Nat.le_refl _) (.cells #[.int .i64 5, S key, S value, S old] 69)
  have ob0 : OpBox (w.alloc (.cells #[.int .i64 5, S key, S value, S old] 69)) w.heap.size (⟨5, key, value, old⟩ : OpT) := opCells w (⟨5, key, value, old⟩ : OpT)
  have hh0 := h.below hb0
  have hfar : ¬ (w.heap.size = p ∨ v.ownBlock = some w.heap.size) := fun hh => by
    rcases hh with hh | hh
    · have := h.lt; omega
    · have := h.own.lt hh; omega
  obtain ⟨A, c, g, rfl, hc1, hc2, hnil, hsome, hr, hA⟩ := h.slice
  have hfew := ht.few
  have hce : ∀ W, Calls Tryd.prog 78 #[.agg #[.int .i64 5, S key, S value, S old]] W fun e w' => e = .returned (.int .i64 0) ∧ Below W.heap.size W w' := fun W => by
    have := check_any (⟨5, key, value, old⟩ : OpT) W
    rw [hc] at this
    exact this
  have hst : (lookT t key).isSome = false := by rw [hk]; rfl
  have HH := Lib.hid h; have HH0 := Lib.hid hh0; have HT := Lib.hid ht; have HS := Lib.hid hsome; have OB0 := Lib.hid ob0; have HC := Lib.hid hc; have HK := Lib.hid hk; have HCE := Lib.hid hce; have HFAR := Lib.hid hfar
  obtain ⟨c0, c1, c2, c3⟩ := ob0
  dsimp only at c0 c1 c2 c3
  clear h hh0 ht hsome hr hA hnil hc hk hce hfar
  go_enter Tryd.func62, Tryd.ntmps62
  go_wp2_with (first | (go_at_call 78; refine (HCE.out _).mono ?_; rintro e1 w1 ⟨rfl, hb1⟩; clear c0 c1 c2 c3; have HH1 := Lib.hid (HH0.out.below hb1); have OB1 := Lib.hid (OB0.out.below hb1); obtain ⟨c0, c1, c2, c3⟩ := OB1.out; dsimp only at c0 c1 c2 c3; have hb01 := hb0.trans (hb1.mono hb0.size)) | (go_at_call 79; refine (find_any t key _ c g p w1 (HH1.out.row.cell 0) HS.out HT.out (rowsAt_of' HH1.out HS.out)).mono ?_; rintro e2 w2 ⟨rfl, hb2⟩; clear c0 c1 c2 c3; have HH2 := Lib.hid (HH1.out.below hb2); have OB2 := Lib.hid (OB1.out.below hb2); obtain ⟨c0, c1, c2, c3⟩ := OB2.out; dsimp only at c0 c1 c2 c3; have hb02 := hb01.trans (hb2.mono hb01.size); have hp2 : w2.cell? ⟨p, 0, none⟩ = some _ := HH2.out.row.cell 0))
  go_ret2
  have e : doT t (⟨5, key, value, old⟩ : OpT) = (t, [], 6) := by unfold doT; rw [HC.out, if_neg (by simp)]; simp only [show ¬ (5 : Int) = 2 by decide, show ¬ (5 : Int) = 3 by decide, if_false]; rw [if_pos HK.out]
  unfold DoIs
  rw [e]
  exact ⟨rfl, _, Moved.ofBelow hb02 (Moved.refl HH2.out)⟩
set_option maxRecDepth 100000 in
set_option maxHeartbeats 400000 in
theorem do_get (t : Tab) (key value old : Bytes) (p : Nat) (v : Value) (w : World) (h : TableAt w p v t) (ht : TabOk t) (hc : checkT (⟨1, key, value, old⟩ : OpT) = 0) (u : Bytes) (hk : lookT t key = some u) :
    Calls Tryd.prog 62 #[.pointer (some ⟨p, 0, none⟩), .agg #[.int .i64 1, S key, S value, S old]] w (DoIs t (⟨1, key, value, old⟩ : OpT) p v w) := by
  have hb0 := (Below.refl w.heap.size w).alloc (Nat.le_refl _) (.cells #[.int .i64 1, S key, S value, S old] 69)
  have ob0 : OpBox (w.alloc (.cells #[.int .i64 1, S key, S value, S old] 69)) w.heap.size (⟨1, key, value, old⟩ : OpT) := opCells w (⟨1, key, value, old⟩ : OpT)
  have hh0 := h.below hb0
  have hfar : ¬ (w.heap.size = p ∨ v.ownBlock = some w.heap.size) := fun hh => by
    rcases hh with hh | hh
    · have := h.lt; omega
    · have := h.own.lt hh; omega
  obtain ⟨A, c, g, rfl, hc1, hc2, hnil, hsome, hr, hA⟩ := h.slice
  have hfew := ht.few
  have hce : ∀ W, Calls Tryd.prog 78 #[.agg #[.int .i64 1, S key, S value, S old]] W fun e w' => e = .returned (.int .i64 0) ∧ Below W.heap.size W w' := fun W => by
    have := check_any (⟨1, key, value, old⟩ : OpT) W
    rw [hc] at this
    exact this
  have hs := look_some hk
  obtain ⟨hlt, hv⟩ := List.getElem?_eq_some_iff.1 hs
  have hne : t ≠ [] := by intro e; subst e; simp at hlt
  obtain rfl := hsome hne
  have hst : (lookT t key).isSome = true := by rw [hk]; rfl
  have HH := Lib.hid h; have HH0 := Lib.hid hh0; have HT := Lib.hid ht; have HS := Lib.hid hsome; have OB0 := Lib.hid ob0; have HC := Lib.hid hc; have HK := Lib.hid hk; have HCE := Lib.hid hce; have HFAR := Lib.hid hfar
  obtain ⟨c0, c1, c2, c3⟩ := ob0
  dsimp only at c0 c1 c2 c3
  clear h hh0 ht hsome hr hA hnil hc hk hce hfar
  have HV := Lib.hid hv; have HSS := Lib.hid hs
  clear hv hs
  go_enter Tryd.func62, Tryd.ntmps62
  go_wp2_with (first | (go_at_call 78; refine (HCE.out _).mono ?_; rintro e1 w1 ⟨rfl, hb1⟩; clear c0 c1 c2 c3; have HH1 := Lib.hid (HH0.out.below hb1); have OB1 := Lib.hid (OB0.out.below hb1); obtain ⟨c0, c1, c2, c3⟩ := OB1.out; dsimp only at c0 c1 c2 c3; have hb01 := hb0.trans (hb1.mono hb0.size)) | (go_at_call 79; refine (find_any t key _ c g p w1 (HH1.out.row.cell 0) (fun _ => rfl) HT.out (rowsAt_of HH1.out)).mono ?_; rintro e2 w2 ⟨rfl, hb2⟩; clear c0 c1 c2 c3; have HH2 := Lib.hid (HH1.out.below hb2); have OB2 := Lib.hid (OB1.out.below hb2); obtain ⟨c0, c1, c2, c3⟩ := OB2.out; dsimp only at c0 c1 c2 c3; have hb02 := hb01.trans (hb2.mono hb01.size); have hp2 : w2.cell? ⟨p, 0, none⟩ = some _ := HH2.out.row.cell 0; obtain ⟨hq1, hq2⟩ := (rowsAt_of HH2.out) _ hlt; rw [HV.out] at hq1 hq2; dsimp only at hq1 hq2))
  go_ret2
  have e : doT t (⟨1, key, value, old⟩ : OpT) = (t, u, 0) := by unfold doT; rw [HC.out, if_neg (by simp)]; simp only [show ¬ (1 : Int) = 2 by decide, show ¬ (1 : Int) = 3 by decide, if_false]; rw [HK.out]; simp
  unfold DoIs
  rw [e]
  exact ⟨rfl, _, Moved.ofBelow hb02 (Moved.refl HH2.out)⟩
set_option maxRecDepth 100000 in
set_option maxHeartbeats 400000 in
theorem do_swap_no (t : Tab) (key value old : Bytes) (p : Nat) (v : Value) (w : World) (h : TableAt w p v t) (ht : TabOk t) (hc : checkT (⟨5, key, value, old⟩ : OpT) = 0) (u : Bytes) (hk : lookT t key = some u) (hu : u ≠ old) :
    Calls Tryd.prog 62 #[.pointer (some ⟨p, 0, none⟩), .agg #[.int .i64 5, S key, S value, S old]] w (DoIs t (⟨5, key, value, old⟩ : OpT) p v w) := by
  have hb0 := (Below.refl w.heap.size w).alloc (Nat.le_refl _) (.cells #[.int .i64 5, S key, S value, S old] 69)
  have ob0 : OpBox (w.alloc (.cells #[.int .i64 5, S key, S value, S old] 69)) w.heap.size (⟨5, key, value, old⟩ : OpT) := opCells w (⟨5, key, value, old⟩ : OpT)
  have hh0 := h.below hb0
  have hfar : ¬ (w.heap.size = p ∨ v.ownBlock = some w.heap.size) := fun hh => by
    rcases hh with hh | hh
    · have := h.lt; omega
    · have := h.own.lt hh; omega
  obtain ⟨A, c, g, rfl, hc1, hc2, hnil, hsome, hr, hA⟩ := h.slice
  have hfew := ht.few
  have hce : ∀ W, Calls Tryd.prog 78 #[.agg #[.int .i64 5, S key, S value, S old]] W fun e w' => e = .returned (.int .i64 0) ∧ Below W.heap.size W w' := fun W => by
    have := check_any (⟨5, key, value, old⟩ : OpT) W
    rw [hc] at this
    exact this
  have hub : (u == old) = false := by simpa using hu
  have HU := Lib.hid hu
  have hs := look_some hk
  obtain ⟨hlt, hv⟩ := List.getElem?_eq_some_iff.1 hs
  have hne : t ≠ [] := by intro e; subst e; simp at hlt
  obtain rfl := hsome hne
  have hst : (lookT t key).isSome = true := by rw [hk]; rfl
  have HH := Lib.hid h; have HH0 := Lib.hid hh0; have HT := Lib.hid ht; have HS := Lib.hid hsome; have OB0 := Lib.hid ob0; have HC := Lib.hid hc; have HK := Lib.hid hk; have HCE := Lib.hid hce; have HFAR := Lib.hid hfar
  obtain ⟨c0, c1, c2, c3⟩ := ob0
  dsimp only at c0 c1 c2 c3
  clear h hh0 ht hsome hr hA hnil hc hk hce hfar
  have HV := Lib.hid hv; have HSS := Lib.hid hs
  clear hv hs
  go_enter Tryd.func62, Tryd.ntmps62
  go_wp2_with (first | (go_at_call 78; refine (HCE.out _).mono ?_; rintro e1 w1 ⟨rfl, hb1⟩; clear c0 c1 c2 c3; have HH1 := Lib.hid (HH0.out.below hb1); have OB1 := Lib.hid (OB0.out.below hb1); obtain ⟨c0, c1, c2, c3⟩ := OB1.out; dsimp only at c0 c1 c2 c3; have hb01 := hb0.trans (hb1.mono hb0.size)) | (go_at_call 79; refine (find_any t key _ c g p w1 (HH1.out.row.cell 0) (fun _ => rfl) HT.out (rowsAt_of HH1.out)).mono ?_; rintro e2 w2 ⟨rfl, hb2⟩; clear c0 c1 c2 c3; have HH2 := Lib.hid (HH1.out.below hb2); have OB2 := Lib.hid (OB1.out.below hb2); obtain ⟨c0, c1, c2, c3⟩ := OB2.out; dsimp only at c0 c1 c2 c3; have hb02 := hb01.trans (hb2.mono hb01.size); have hp2 : w2.cell? ⟨p, 0, none⟩ = some _ := HH2.out.row.cell 0; obtain ⟨hq1, hq2⟩ := (rowsAt_of HH2.out) _ hlt; rw [HV.out] at hq1 hq2; dsimp only at hq1 hq2))
  go_ret2
  have e : doT t (⟨5, key, value, old⟩ : OpT) = (t, [], 7) := by unfold doT; rw [HC.out, if_neg (by simp)]; simp only [show ¬ (5 : Int) = 2 by decide, show ¬ (5 : Int) = 3 by decide, if_false]; rw [HK.out]; simp [HU.out]
  unfold DoIs
  rw [e]
  exact ⟨rfl, _, Moved.ofBelow hb02 (Moved.refl HH2.out)⟩
set_option maxRecDepth 100000 in
set_option maxHeartbeats 400000 in
theorem do_swap_ok (t : Tab) (key value old : Bytes) (p : Nat) (v : Value) (w : World) (h : TableAt w p v t) (ht : TabOk t) (hc : checkT (⟨5, key, value, old⟩ : OpT) = 0) (u : Bytes) (hk : lookT t key = some u) (hu : u = old) :
    Calls Tryd.prog 62 #[.pointer (some ⟨p, 0, none⟩), .agg #[.int .i64 5, S key, S value, S old]] w (DoIs t (⟨5, key, value, old⟩ : OpT) p v w) := by
  have hb0 := (Below.refl w.heap.size w).alloc (Nat.le_refl _) (.cells #[.int .i64 5, S key, S value, S old] 69)
  have ob0 : OpBox (w.alloc (.cells #[.int .i64 5, S key, S value, S old] 69)) w.heap.size (⟨5, key, value, old⟩ : OpT) := opCells w (⟨5, key, value, old⟩ : OpT)
  have hh0 := h.below hb0
  have hfar : ¬ (w.heap.size = p ∨ v.ownBlock = some w.heap.size) := fun hh => by
    rcases hh with hh | hh
    · have := h.lt; omega
    · have := h.own.lt hh; omega
  obtain ⟨A, c, g, rfl, hc1, hc2, hnil, hsome, hr, hA⟩ := h.slice
  have hfew := ht.few
  have hce : ∀ W, Calls Tryd.prog 78 #[.agg #[.int .i64 5, S key, S value, S old]] W fun e w' => e = .returned (.int .i64 0) ∧ Below W.heap.size W w' := fun W => by
    have := check_any (⟨5, key, value, old⟩ : OpT) W
    rw [hc] at this
    exact this
  have HF := Lib.hid (show ¬ (lookT t key = none ∧ t.length = 16) from fun h => by rw [hk] at h; cases h.1)
  have HU := Lib.hid hu
  have hub : (u == old) = true := by simpa using hu
  clear hu
  have hs := look_some hk
  obtain ⟨hlt, hv⟩ := List.getElem?_eq_some_iff.1 hs
  have hne : t ≠ [] := by intro e; subst e; simp at hlt
  obtain rfl := hsome hne
  have hst : (lookT t key).isSome = true := by rw [hk]; rfl
  have HH := Lib.hid h; have HH0 := Lib.hid hh0; have HT := Lib.hid ht; have HS := Lib.hid hsome; have OB0 := Lib.hid ob0; have HC := Lib.hid hc; have HK := Lib.hid hk; have HCE := Lib.hid hce; have HFAR := Lib.hid hfar
  obtain ⟨c0, c1, c2, c3⟩ := ob0
  dsimp only at c0 c1 c2 c3
  clear h hh0 ht hsome hr hA hnil hc hk hce hfar
  have HV := Lib.hid hv; have HSS := Lib.hid hs
  clear hv hs
  go_enter Tryd.func62, Tryd.ntmps62
  go_wp2_with (first | (go_at_call 78; refine (HCE.out _).mono ?_; rintro e1 w1 ⟨rfl, hb1⟩; clear c0 c1 c2 c3; have HH1 := Lib.hid (HH0.out.below hb1); have OB1 := Lib.hid (OB0.out.below hb1); obtain ⟨c0, c1, c2, c3⟩ := OB1.out; dsimp only at c0 c1 c2 c3; have hb01 := hb0.trans (hb1.mono hb0.size)) | (go_at_call 79; refine (find_any t key _ c g p w1 (HH1.out.row.cell 0) (fun _ => rfl) HT.out (rowsAt_of HH1.out)).mono ?_; rintro e2 w2 ⟨rfl, hb2⟩; clear c0 c1 c2 c3; have HH2 := Lib.hid (HH1.out.below hb2); have OB2 := Lib.hid (OB1.out.below hb2); obtain ⟨c0, c1, c2, c3⟩ := OB2.out; dsimp only at c0 c1 c2 c3; have hb02 := hb01.trans (hb2.mono hb01.size); have hp2 : w2.cell? ⟨p, 0, none⟩ = some _ := HH2.out.row.cell 0; obtain ⟨hq1, hq2⟩ := (rowsAt_of HH2.out) _ hlt; rw [HV.out] at hq1 hq2; dsimp only at hq1 hq2) | (go_at_call 80; refine (set_any t key value p _ w2 HH2.out HT.out HF.out).mono ?_; rintro e3 w3 ⟨rfl, v3, hm⟩; have HM := Lib.hid hm; clear hm))
  go_ret2
  have e : doT t (⟨5, key, value, old⟩ : OpT) = (setT t key value, u, 0) := by unfold doT; rw [HC.out, if_neg (by simp)]; simp only [show ¬ (5 : Int) = 2 by decide, show ¬ (5 : Int) = 3 by decide, if_false]; rw [HK.out]; simp [HU.out]
  unfold DoIs
  rw [e]
  exact ⟨rfl, v3, Moved.ofBelow hb02 HM.out⟩
end Go.Proofs.YtocgnkenlfdffaaDoor
