/- package seal: Check. -/
import Derived.Test.YtocgnkenlfdffaaDoorSeal6
import Derived.Test.YtocgnkenlfdffaaDoorEqb
import Derived.BigQuiet
import Derived.Deep.MidRow
namespace Go.Proofs.YtocgnkenlfdffaaDoor
open Go Go.RowKit Go.Wap
theorem check_no (rv : Value) (g n : Int) (X T : Bytes) (w : World) (h : ¬ IsP g n) : Calls Tryd.prog 16 #[rv, sV g n X T] w fun e w' =>
    e = .returned (.int .i64 1) ∧ Below w.heap.size w w' := by
  have hb0 := (Below.refl w.heap.size w).alloc (Nat.le_refl _) (.cells #[.int .i64 g, .int .i64 n, S X, S T] 25)
  have q0 := RowV.new w 25 #[.int .i64 g, .int .i64 n, S X, S T]
  have c0 := cell_of_row _ w.heap.size 0 _ _ _ q0; have c1 := cell_of_row _ w.heap.size 1 _ _ _ q0; have c2 := cell_of_row _ w.heap.size 2 _ _ _ q0
  simp only [List.getElem?_toArray, List.getElem?_cons_zero, List.getElem?_cons_succ] at c0 c1 c2
  clear q0
  go_enter Tryd.func16, Tryd.ntmps16
  go_wp2_with (first | (go_at_call 44; refine (stamp_no rv g n X _ h).mono ?_; rintro e w1 ⟨rfl, hb1⟩; have hb2 := hb0.trans (hb1.mono hb0.size); clear c0 c1 c2) | (refine wpList_store_row rfl 95 (.tmp 5) (.tmp 14) rfl w1.heap.size (bytesV z16) rfl rfl 95 (bytesV z16) (heap_alloc_new w1 _) (by kernel_rfl) rfl (bytesV_one _) ?_))
  go_ret
  exact ⟨rfl, below_setRow (hb2.alloc hb2.size _) hb2.size⟩
set_option maxRecDepth 100000 in
set_option maxHeartbeats 400000 in
theorem check_len (r : Nat) (K : Bytes) (g n : Int) (X T : Bytes) (w : World) (h : IsP g n) (hT : T.length ≠ 16) (hr : IsRing w r K) (hK : K.length ≤ 32) (hX : X.length < 281474976710656) (hg : GlobB w) : Calls Tryd.prog 16 #[.pointer (some ⟨r, 0, none⟩), sV g n X T] w fun e w' =>
    e = .returned (.int .i64 30) ∧ Below w.heap.size w w' := by
  have hb0 := (Below.refl w.heap.size w).alloc (Nat.le_refl _) (.cells #[.int .i64 g, .int .i64 n, S X, S T] 25)
  have q0 := RowV.new w 25 #[.int .i64 g, .int .i64 n, S X, S T]
  have c0 := cell_of_row _ w.heap.size 0 _ _ _ q0; have c1 := cell_of_row _ w.heap.size 1 _ _ _ q0; have c2 := cell_of_row _ w.heap.size 2 _ _ _ q0
  simp only [List.getElem?_toArray, List.getElem?_cons_zero, List.getElem?_cons_succ] at c0 c1 c2
  have HR := Lib.hid (hr.below hb0); have HG := Lib.hid (hg.next hb0); have HQ := Lib.hid q0; clear hr hg q0
  have hlb : ((T.length : Int) != 16) = true := by simp; omega
  have hlb2 : decide ((T.length : Int) ≠ 16) = true := by simp; omega
  have HT : (T.length : Int) ≠ 16 := by omega
  go_enter Tryd.func16, Tryd.ntmps16
  go_upto_region 4 with (first | (go_at_call 44; refine (stamp_gen r K g n X _ h HR.out hK hX HG.out).mono ?_; rintro e w1 ⟨T1, hT1, hTe, rfl, hb1⟩; have hb2 := hb0.trans (hb1.mono hb0.size); have q1 := HQ.out.below hb1 (by simp); clear c0 c1 c2) | (refine wpList_store_row rfl 95 (.tmp 5) (.tmp 14) rfl w1.heap.size (bytesV T1) rfl rfl 95 (bytesV z16) (heap_alloc_new w1 _) (by rw [bytesV_size, hT1]; kernel_rfl) (by rw [bytesV_size, bytesV_size, hT1]; rfl) (bytesV_one _) ?_; rw [setRow_alloc]))
  have q2 := q1.alloc (.cells (bytesV T1) 95)
  have q5 := RowV.new w1 95 (bytesV T1)
  have hb3 := hb2.alloc hb2.size (.cells (bytesV T1) 95)
  generalize w1.alloc (.cells (bytesV T1) 95) = W at q2 hb3 ⊢
  have c3 := cell_of_row _ w.heap.size 3 _ _ _ q2
  simp only [List.getElem?_toArray, List.getElem?_cons_zero, List.getElem?_cons_succ] at c3
  clear q1 q2 hb2 hb1 hb0 HR HG HQ
  go_quiet (fail)
  go_wp2_with fail
  go_ret
  exact ⟨rfl, below_drewN hb3 _⟩
theorem wp_conv {P : Program} {w w' : World} {o : Oper} {a : Act} {K : Act → World → Prop} {Q : Exit → Act → World → Prop} (src dst : TypeId) (x : Operand) (ho : o.op = .convert src dst x) (u : Value) (hx : a.eval x = u) {v : Value}
    (hr : (convert src dst u).run P w = .ok v w') (h : K (a.put o.dst v) w') : o.wp P a w K Q := by
  unfold Oper.wp execOp
  simp only [ho, hx, Sem.run_bind, hr, Result.andThen_ok]
  exact h
theorem wp_arr {P : Program} {w w' : World} {o : Oper} {a : Act} {K : Act → World → Prop} {Q : Exit → Act → World → Prop} (t : TypeId) (x : Operand) (ho : o.op = .sliceToArrayPointer t x) (u : Value) (hx : a.eval x = u) {v : Value}
    (hr : (Instr.arrayAt t u).run P w = .ok v w') (h : K (a.put o.dst v) w') : o.wp P a w K Q := by
  unfold Oper.wp execOp
  simp only [ho, hx, Sem.run_bind, hr, Result.andThen_ok]
  exact h
set_option maxRecDepth 100000 in
set_option maxHeartbeats 400000 in
theorem check_gen (x : Int) (r : Nat) (K : Bytes) (g n : Int) (X T : Bytes) (w : World) (h : IsP g n) (hT : T.length = 16) (hr : IsRing w r K) (hK : K.length ≤ 32) (hX : X.length < 281474976710656) (hg : GlobB w) (hx : Hid ((T = tagF K X g n → x = 0) ∧ (T ≠ tagF K X g n → x = 30))) : Calls Tryd.prog 16 #[.pointer (some ⟨r, 0, none⟩), sV g n X T] w fun e w' =>
    e = .returned (.int .i64 x) ∧ Below w.heap.size w w' := by
  have hb0 := (Below.refl w.heap.size w).alloc (Nat.le_refl _) (.cells #[.int .i64 g, .int .i64 n, S X, S T] 25)
  have q0 := RowV.new w 25 #[.int .i64 g, .int .i64 n, S X, S T]
  have c0 := cell_of_row _ w.heap.size 0 _ _ _ q0; have c1 := cell_of_row _ w.heap.size 1 _ _ _ q0; have c2 := cell_of_row _ w.heap.size 2 _ _ _ q0
  simp only [List.getElem?_toArray, List.getElem?_cons_zero, List.getElem?_cons_succ] at c0 c1 c2
  have HR := Lib.hid (hr.below hb0); have HG := Lib.hid (hg.next hb0); have HQ := Lib.hid q0; clear hr hg q0
  have hlb : ((T.length : Int) != 16) = false := by simp; omega
  have HT : (T.length : Int) = 16 := by omega
  go_enter Tryd.func16, Tryd.ntmps16
  go_upto_region 4 with (first | (go_at_call 44; refine (stamp_gen r K g n X _ h HR.out hK hX HG.out).mono ?_; rintro e w1 ⟨T1, hT1, hTe, rfl, hb1⟩; have hb2 := hb0.trans (hb1.mono hb0.size); have q1 := HQ.out.below hb1 (by simp); clear c0 c1 c2) | (refine wpList_store_row rfl 95 (.tmp 5) (.tmp 14) rfl w1.heap.size (bytesV T1) rfl rfl 95 (bytesV z16) (heap_alloc_new w1 _) (by rw [bytesV_size, hT1]; kernel_rfl) (by rw [bytesV_size, bytesV_size, hT1]; rfl) (bytesV_one _) ?_; rw [setRow_alloc]))
  have q2 := q1.alloc (.cells (bytesV T1) 95)
  have q5 := RowV.new w1 95 (bytesV T1)
  have hb3 := hb2.alloc hb2.size (.cells (bytesV T1) 95)
  generalize w1.alloc (.cells (bytesV T1) 95) = W at q2 hb3 q5 ⊢
  have c3 := cell_of_row _ w.heap.size 3 _ _ _ q2
  simp only [List.getElem?_toArray, List.getElem?_cons_zero, List.getElem?_cons_succ] at c3
  clear q1 q2 hb2 hb1 hb0 HR HG HQ
  have r3 : RowV W.drew w1.heap.size 95 (bytesV T1) := q5
  have hTsz : (⟨T.toArray⟩ : ByteArray).size = 16 := by show T.toArray.size = 16; simpa using hT
  obtain ⟨cc, hcv⟩ : ∃ cc, (convert 9 98 (.string ⟨T.toArray⟩)).run Tryd.prog W.drew = .ok (.slice (some ⟨W.heap.size, 0, none⟩) 16 cc) (Lib.bytesWorld W.drew 5 ⟨T.toArray⟩) := by
    refine ⟨grownCap W.drew 16 0 5, ?_⟩
    have := Lib.run_convert_string_bytes (P := Tryd.prog) W.drew 9 98 5 ⟨T.toArray⟩ (u := .string) (by kernel_rfl) (by kernel_rfl) (by kernel_rfl)
    rw [hTsz] at this; exact this
  have hat : ∀ b c W, (Instr.arrayAt 95 (.slice (some b) 16 c)).run Tryd.prog W = .ok (.pointer (some b)) W := fun b c W => run_arrayAt _ 16 _ arr16Under _ _ _ (Nat.le_refl _)
  have hrg : ∀ (W' : World) (b : Nat) (t : TypeId) (l : Bytes), RowV W' b t (bytesV l) → W'.rangeAt b 0 (bytesV l).toList := fun W' b t l h' j v hv => by
    rw [Nat.zero_add, cell_of_row W' b j _ t (0, 0) h']; simpa using hv
  have hr1 := hrg _ _ _ _ r3
  have hr2 := hrg _ _ _ _ (r3.below (Lib.bytesWorld_below W.drew 5 ⟨T.toArray⟩) r3.lt)
  have hr3 : (Lib.bytesWorld W.drew 5 ⟨T.toArray⟩).rangeAt W.heap.size 0 (bytesV T).toList := fun j v hv => by
    have hj : j < T.length := by
      have := (List.getElem?_eq_some_iff.1 hv).1
      simpa [bytesV] using this
    rw [Nat.zero_add]
    rw [show (⟨W.heap.size, j, none⟩ : Addr) = ⟨W.drew.heap.size, j, none⟩ from rfl, Lib.bytesWorld_cell W.drew 5 _ j (by show j < T.toArray.size; simpa using hj)]
    rw [Array.getElem?_toList, bytesV_at T j hj] at hv
    simpa using hv
  have hi1 : (Tryd.prog.info? 95).map (·.size) = some (bytesV T).toList.length := by rw [Array.length_toList, bytesV_size, hT]; kernel_rfl
  have hi2 : (Tryd.prog.info? 95).map (·.size) = some (bytesV T1).toList.length := by rw [Array.length_toList, bytesV_size, hT1]; kernel_rfl
  have hua := arr16Under
  have hwl : w.heap.size < W.drew.heap.size := World.block_lt_of_cell? W ⟨w.heap.size, 3, none⟩ c3
  have c5 : W.drew.cell? ⟨w.heap.size, 3, none⟩ = some (S T) := c3
  have c4 := (Lib.bytesWorld_old W.drew 5 ⟨T.toArray⟩ ⟨w.heap.size, 3, none⟩ hwl).trans c5
  clear hrg r3
  have heq : ∀ w, (Op.equalIn 10000 95 (.agg (bytesV T)) (.agg (bytesV T1))).run Tryd.prog w = .ok (decide (T = T1)) w := by
    obtain ⟨i0, hi0⟩ : ∃ i, Tryd.prog.info? 5 = some i := info_of_underlying (t := 5) (d := .int .u8) (by kernel_rfl)
    exact fun w => eq_arrays (P := Tryd.prog) w 95 5 16 9998 i0 arr16Under (by kernel_rfl) hi0 (by kernel_rfl) T T1 hT hT1
  have hdx : x = if decide (T = T1) = true then 0 else 30 := by
    by_cases hq : T = T1
    · rw [if_pos (by simpa using hq)]; exact hx.out.1 (hq.trans hTe.out)
    · rw [if_neg (by simpa using hq)]; exact hx.out.2 (fun h' => hq (h'.trans hTe.out.symm))
  generalize decide (T = T1) = bq at heq hdx
  generalize hVT : bytesV T = VT at hr3 hi1 heq
  generalize hVT1 : bytesV T1 = VT1 at hr1 hr2 hi2 heq
  have HB3 := Lib.hid hb3
  clear hTsz hb3 h hTe hx
  refine wp_region_noPanic ?_
  refine wp_region_held_drew (S := fun w' => w'.rangeAt w1.heap.size 0 VT1.toList ∧ w'.cell? ⟨w.heap.size, 3, none⟩ = some (S T)) (by kernel_rfl) ⟨hr1, c5⟩ (fun hHeld => ?_)
  refine wpAnyH_take (i := 0) (oi := ⟨some 21, _, _, _, _, _⟩) (v := ?v1) rfl (by kernel_rfl) (by kernel_rfl) (by kernel_rfl) (fun _ _ _ h => h) (Or.inl ⟨by rfl, ?hy1⟩) hHeld ?rest1
  case hy1 => (intro w hSw; (try dsimp only at hSw); go_simp; try with_reducible rfl)
  try simp only [Act.put, List.setIfInBounds_toArray, List.set_cons_zero, List.set_cons_succ]
  refine wpAnyH_take (i := 1) (oi := ⟨some 22, _, _, _, _, _⟩) (v := ?v2) rfl (by kernel_rfl) (by kernel_rfl) (by kernel_rfl) (fun _ _ _ h => h) (Or.inl ⟨by rfl, ?hy2⟩) hHeld ?rest2
  case hy2 => (intro w hSw; (try dsimp only at hSw); go_simp; try with_reducible rfl)
  try simp only [Act.put, List.setIfInBounds_toArray, List.set_cons_zero, List.set_cons_succ]
  refine wpAnyH_take (i := 2) (oi := ⟨some 23, _, _, _, _, _⟩) (v := ?v3) rfl (by kernel_rfl) (by kernel_rfl) (by kernel_rfl) (fun _ _ _ h => h) (Or.inl ⟨by rfl, ?hy3⟩) hHeld ?rest3
  case hy3 => (intro w hSw; (try dsimp only at hSw); go_simp; try with_reducible rfl)
  try simp only [Act.put, List.setIfInBounds_toArray, List.set_cons_zero, List.set_cons_succ]
  refine wpAnyH_take (i := 3) (oi := ⟨some 24, _, _, _, _, _⟩) (v := ?v4) rfl (by kernel_rfl) (by kernel_rfl) (by kernel_rfl) (fun _ _ _ h => h) (Or.inl ⟨by rfl, ?hy4⟩) hHeld ?rest4
  case hy4 => (intro w hSw; (try dsimp only at hSw); go_simp; try with_reducible rfl)
  try simp only [Act.put, List.setIfInBounds_toArray, List.set_cons_zero, List.set_cons_succ]
  refine wpAnyH_take (i := 4) (oi := ⟨some 25, _, _, _, _, _⟩) (v := ?v5) rfl (by kernel_rfl) (by kernel_rfl) (by kernel_rfl) (fun _ _ _ h => h) (Or.inl ⟨by rfl, ?hy5⟩) hHeld ?rest5
  case hy5 => (intro w hSw; (try dsimp only at hSw); go_simp; try with_reducible rfl)
  try simp only [Act.put, List.setIfInBounds_toArray, List.set_cons_zero, List.set_cons_succ]
  refine wpAnyH_take (i := 5) (oi := ⟨some 26, _, _, _, _, _⟩) (v := ?v6) rfl (by kernel_rfl) (by kernel_rfl) (by kernel_rfl) (fun _ _ _ h => h) (Or.inl ⟨by rfl, ?hy6⟩) hHeld ?rest6
  case hy6 => (intro w hSw; (try dsimp only at hSw); go_simp; try with_reducible rfl)
  try simp only [Act.put, List.setIfInBounds_toArray, List.set_cons_zero, List.set_cons_succ]
  refine wpAnyH_take (i := 6) (oi := ⟨some 27, _, _, _, _, _⟩) (v := ?v7) rfl (by kernel_rfl) (by kernel_rfl) (by kernel_rfl) (fun _ _ _ h => h) (Or.inl ⟨by rfl, ?hy7⟩) hHeld ?rest7
  case hy7 => (intro w hSw; (try dsimp only at hSw); go_simp; try with_reducible rfl)
  try simp only [Act.put, List.setIfInBounds_toArray, List.set_cons_zero, List.set_cons_succ]
  refine wpAnyH_take (i := 10) (oi := ⟨some 31, _, _, _, _, _⟩) (v := .agg VT1.toList.toArray) rfl (by kernel_rfl) (by kernel_rfl) (by kernel_rfl) (fun _ _ _ h => h) ?hy8 hHeld ?rest8
  case hy8 => exact yieldsIf_load_mid (by rfl) 95 _ rfl w1.heap.size 0 rfl VT1.toList _ (fun w' h' => h'.1) hua rfl hi2
  try simp only [Act.put, List.setIfInBounds_toArray, List.set_cons_zero, List.set_cons_succ]
  refine wpAnyH_all (rs := [7]) (by kernel_rfl) (by simp) ?_
  intro i hi
  rw [List.mem_singleton] at hi
  subst hi
  refine wpOp_step (o := ⟨some 28, _, _, _, _, _⟩) rfl (fun K hK => ?_)
  rw [if_pos (by rfl)]
  refine wp_conv 9 98 _ rfl _ rfl hcv (hK _ _ ⟨⟨hr2, c4⟩, ?_⟩)
  clear hK K
  have hHeld2 := And.intro hr2 c4
  try simp only [Act.put, List.setIfInBounds_toArray, List.set_cons_zero, List.set_cons_succ]
  refine wpAnyH_all (rs := [8]) (by kernel_rfl) (by simp) ?_
  intro i hi
  rw [List.mem_singleton] at hi
  subst hi
  refine wpOp_step (o := ⟨some 29, _, _, _, _, _⟩) rfl (fun K hK => ?_)
  rw [if_pos (by rfl)]
  refine wp_arr 95 _ rfl _ rfl (hat _ cc _) (hK _ _ ⟨⟨hr2, c4⟩, ?_⟩)
  clear hK K
  try simp only [Act.put, List.setIfInBounds_toArray, List.set_cons_zero, List.set_cons_succ]
  refine wpAnyH_all (rs := [9]) (by kernel_rfl) (by simp) ?_
  intro i hi
  rw [List.mem_singleton] at hi
  subst hi
  refine wpOp_step (o := ⟨some 30, _, _, _, _, _⟩) rfl (fun K hK => ?_)
  rw [if_pos (by rfl)]
  refine wp_load_mid 95 _ rfl W.heap.size 0 rfl VT.toList _ hr3 hua rfl hi1 (hK _ _ ⟨⟨hr2, c4⟩, ?_⟩)
  clear hK K
  try simp only [Act.put, List.setIfInBounds_toArray, List.set_cons_zero, List.set_cons_succ]
  refine wpAnyH_take (i := 11) (oi := ⟨some 32, _, _, _, _, _⟩) (v := ?v21) rfl (by kernel_rfl) (by kernel_rfl) (by kernel_rfl) (fun _ _ _ h => h) (Or.inl ⟨by rfl, ?hy21⟩) hHeld2 ?rest21
  case hy21 => (intro w hSw; (try dsimp only at hSw); go_simp; try with_reducible rfl)
  try simp only [Act.put, List.setIfInBounds_toArray, List.set_cons_zero, List.set_cons_succ]
  refine wpAnyH_take (i := 12) (oi := ⟨some 33, _, _, _, _, _⟩) (v := ?v31) rfl (by kernel_rfl) (by kernel_rfl) (by kernel_rfl) (fun _ _ _ h => h) (Or.inl ⟨by rfl, ?hy31⟩) hHeld2 ?rest31
  case hy31 => (intro w hSw; (try dsimp only at hSw); go_simp; try with_reducible rfl)
  try simp only [Act.put, List.setIfInBounds_toArray, List.set_cons_zero, List.set_cons_succ]
  refine wpAnyH_take (i := 13) (oi := ⟨some 20, _, _, _, _, _⟩) (v := ?v32) rfl (by kernel_rfl) (by kernel_rfl) (by kernel_rfl) (fun _ _ _ h => h) (Or.inl ⟨by rfl, ?hy32⟩) hHeld2 ?rest32
  case hy32 => (intro w hSw; (try dsimp only at hSw); go_simp; try with_reducible rfl)
  try simp only [Act.put, List.setIfInBounds_toArray, List.set_cons_zero, List.set_cons_succ]
  refine wpAnyH_done (by kernel_rfl) ?_ _
  refine NoPanic.normal ?_
  have HB4 := (HB3.out.drew).trans ((Lib.bytesWorld_below W.drew 5 ⟨T.toArray⟩).mono HB3.out.drew.size)
  generalize Lib.bytesWorld W.drew 5 ⟨T.toArray⟩ = W4 at HB4 ⊢
  clear hHeld hHeld2 hr1 hr2 hr3 hcv c3 c4 c5 hi1 hi2 hat heq HB3
  cases bq
  · go_wp2_with fail
    go_ret
    exact ⟨by first | rfl | (rw [hdx]; rfl), HB4⟩
  · go_wp2_with fail
    go_ret
    exact ⟨by first | rfl | (rw [hdx]; rfl), HB4⟩
end Go.Proofs.YtocgnkenlfdffaaDoor
