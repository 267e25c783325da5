/- package table: Do, of a delete; Do. -/
import Derived.Test.YtocgnkenlfdffaaDoorTabW6
namespace Go.Proofs.YtocgnkenlfdffaaDoor
open Go Go.RowKit Go.Wap
/-- the rows ahead of a place, in the same block -/
theorem own_take {w : World} {g c i : Nat} {t : Tab} (h : OwnT w (.slice (some ⟨g, 0, none⟩) t.length c) t) (hi : i ≤ t.length) : OwnT w (.slice (some ⟨g, 0, none⟩) i i) (t.take i) := by
  rcases h with ⟨h0, _⟩ | ⟨g', cap, cur, h0, hh, hn, hm, hs, ht⟩
  · cases h0
  · simp only [Value.slice.injEq, Option.some.injEq, Addr.mk.injEq, and_true, true_and] at h0
    obtain ⟨rfl, rfl⟩ := h0
    have hl : (t.take i).length = i := by rw [List.length_take]; omega
    refine .inr ⟨g, i, cur, by rw [hl], hh, by rw [hl]; exact Nat.le_refl _, by omega, by omega, ?_⟩
    rw [hl, cellsT_take, ← ht, List.take_take]; congr 1; omega
set_option maxRecDepth 100000 in
set_option maxHeartbeats 400000 in
theorem do_del (t : Tab) (key value old : Bytes) (p : Nat) (v : Value) (w : World) (h : TableAt w p v t) (ht : TabOk t) (hc : checkT (⟨4, key, value, old⟩ : OpT) = 0) (u : Bytes) (hk : lookT t key = some u) :
    Calls Tryd.prog 62 #[.pointer (some ⟨p, 0, none⟩), .agg #[.int .i64 4, S key, S value, S old]] w (DoIs t (⟨4, key, value, old⟩ : OpT) p v w) := by
  have hb0 := (Below.refl w.heap.size w).alloc (Nat.le_refl _) (.cells #[.int .i64 4, S key, S value, S old] 69)
  have ob0 : OpBox (w.alloc (.cells #[.int .i64 4, S key, S value, S old] 69)) w.heap.size (⟨4, key, value, old⟩ : OpT) := opCells w (⟨4, key, value, old⟩ : OpT)
  have hh0 := h.below hb0
  have hfar : ¬ (w.heap.size = p ∨ v.ownBlock = some w.heap.size) := fun hh => by
    rcases hh with hh | hh
    · have := h.lt; omega
    · have := h.own.lt hh; omega
  obtain ⟨A, c, g, rfl, hc1, hc2, hnil, hsome, hr, hA⟩ := h.slice
  have hfew := ht.few
  have hce : ∀ W, Calls Tryd.prog 78 #[.agg #[.int .i64 4, S key, S value, S old]] W fun e w' => e = .returned (.int .i64 0) ∧ Below W.heap.size W w' := fun W => by
    have := check_any (⟨4, key, value, old⟩ : OpT) W
    rw [hc] at this
    exact this
  have hs := look_some hk
  obtain ⟨hlt, hv⟩ := List.getElem?_eq_some_iff.1 hs
  have hne : t ≠ [] := by intro e; subst e; simp at hlt
  obtain rfl := hsome hne
  have hst : (lookT t key).isSome = true := by rw [hk]; rfl
  have HH := Lib.hid h; have HH0 := Lib.hid hh0; have HT := Lib.hid ht; have HS := Lib.hid hsome; have OB0 := Lib.hid ob0; have HC := Lib.hid hc; have HK := Lib.hid hk; have HCE := Lib.hid hce; have HFAR := Lib.hid hfar
  obtain ⟨c0, c1, c2, c3⟩ := ob0
  dsimp only at c0 c1 c2 c3
  clear h hh0 ht hsome hr hA hnil hc hk hce hfar
  have HV := Lib.hid hv; have HSS := Lib.hid hs
  clear hv hs
  go_enter Tryd.func62, Tryd.ntmps62
  go_upto_region 27 with (first | (go_at_call 78; refine (HCE.out _).mono ?_; rintro e1 w1 ⟨rfl, hb1⟩; clear c0 c1 c2 c3; have HH1 := Lib.hid (HH0.out.below hb1); have OB1 := Lib.hid (OB0.out.below hb1); obtain ⟨c0, c1, c2, c3⟩ := OB1.out; dsimp only at c0 c1 c2 c3; have hb01 := hb0.trans (hb1.mono hb0.size)) | (go_at_call 79; refine (find_any t key _ c g p w1 (HH1.out.row.cell 0) (fun _ => rfl) HT.out (rowsAt_of HH1.out)).mono ?_; rintro e2 w2 ⟨rfl, hb2⟩; clear c0 c1 c2 c3; have HH2 := Lib.hid (HH1.out.below hb2); have OB2 := Lib.hid (OB1.out.below hb2); obtain ⟨c0, c1, c2, c3⟩ := OB2.out; dsimp only at c0 c1 c2 c3; have hb02 := hb01.trans (hb2.mono hb01.size); have hp2 : w2.cell? ⟨p, 0, none⟩ = some _ := HH2.out.row.cell 0; obtain ⟨hq1, hq2⟩ := (rowsAt_of HH2.out) _ hlt; rw [HV.out] at hq1 hq2; dsimp only at hq1 hq2))
  have hp1 := hp2
  have h1 := HH2
  have hlt2 := hlt
  obtain ⟨i, hig⟩ : ∃ i, i = aheadT key t := ⟨_, rfl⟩
  have HSe := Lib.hid (show delT t key = t.take i ++ t.drop (i + 1) by rw [hig]; rfl)
  rw [← hig] at hlt2 ⊢
  have HLI := Lib.hid hlt2
  clear hig
  have hs1 := fun w => sliced_hm (some ⟨g, 0, none⟩) t.length c i (by omega) w
  have hs2 : ∀ w, (Instr.slice 151 (.slice (some ⟨g, 0, none⟩) t.length c) (some (.int .i64 ((i : Int) + 1))) none none).run Tryd.prog w = .ok (sliced (some ⟨g, 0, none⟩) (i + 1) t.length c 2) w := fun w => by
    have := sliced_l (some ⟨g, 0, none⟩) t.length c (i + 1) (by omega) w
    rw [show (((i + 1 : Nat) : Int)) = (i : Int) + 1 by omega] at this
    exact this
  have hA1 : sliced (some ⟨g, 0, none⟩) 0 i i 2 = .slice (some ⟨g, 0, none⟩) i i := by
    unfold sliced
    have : (⟨g, 0, none⟩ : Addr).add (0 * 2) = ⟨g, 0, none⟩ := by unfold Addr.add; split <;> simp_all
    rw [Nat.sub_zero]
    split
    · rfl
    · rw [Option.map_some, this]
  simp only [hA1] at hs1
  have hwrap : IntKind.i64.wrap ((i : Int) + 1) = (i : Int) + 1 := IntWalk.i64_in _ (by omega)
  have hsrc : Hid (∀ W, Below w2.heap.size w2 W → Src Tryd.prog 2 151 (sliced (some ⟨g, 0, none⟩) (i + 1) t.length c 2) (t.length - (i + 1)) (cellsT (t.drop (i + 1))) W) :=
    Lib.hid (fun W hW => src_rest rowsUnder (by omega) hc1 (fun h => by cases h) (.inr rfl) (rowsAt_of (h1.out.below hW)))
  clear hA1
  generalize hV : sliced (some ⟨g, 0, none⟩) (i + 1) t.length c 2 = V2 at hs2 hsrc
  clear hV
  refine wp_region_noPanic ?_
  refine wp_region_z (S := fun w' => w'.cell? ⟨p, 0, none⟩ = some (.slice (some ⟨g, 0, none⟩) t.length c)) 18 (by kernel_rfl) hp1 (fun hHeld => ?_)
  refine wpAnyZ_take (i := 0) (oi := ⟨some 86, _, _, _, _, _⟩) (v := ?va0) rfl (by kernel_rfl) (by decide) (by kernel_rfl) (by kernel_rfl) (by kernel_rfl) (fun _ _ _ h => h) (Or.inl ⟨by rfl, ?hya0⟩) hHeld ?resta0
  case hya0 => (intro w hSw; (try dsimp only at hSw); go_simp; try with_reducible rfl)
  try simp only [Act.put, List.setIfInBounds_toArray, List.set_cons_zero, List.set_cons_succ]
  refine wpAnyZ_take (i := 1) (oi := ⟨some 87, _, _, _, _, _⟩) (v := ?va1) rfl (by kernel_rfl) (by decide) (by kernel_rfl) (by kernel_rfl) (by kernel_rfl) (fun _ _ _ h => h) (Or.inl ⟨by rfl, ?hya1⟩) hHeld ?resta1
  case hya1 => (intro w hSw; (try dsimp only at hSw); go_simp; try with_reducible rfl)
  try simp only [Act.put, List.setIfInBounds_toArray, List.set_cons_zero, List.set_cons_succ]
  refine wpAnyZ_take (i := 2) (oi := ⟨some 88, _, _, _, _, _⟩) (v := ?va2) rfl (by kernel_rfl) (by decide) (by kernel_rfl) (by kernel_rfl) (by kernel_rfl) (fun _ _ _ h => h) (Or.inl ⟨by rfl, ?hya2⟩) hHeld ?resta2
  case hya2 => (intro w hSw; (try dsimp only at hSw); go_simp; try with_reducible rfl)
  try simp only [Act.put, List.setIfInBounds_toArray, List.set_cons_zero, List.set_cons_succ]
  refine wpAnyZ_take (i := 3) (oi := ⟨some 89, _, _, _, _, _⟩) (v := ?va3) rfl (by kernel_rfl) (by decide) (by kernel_rfl) (by kernel_rfl) (by kernel_rfl) (fun _ _ _ h => h) (Or.inl ⟨by rfl, ?hya3⟩) hHeld ?resta3
  case hya3 => (intro w hSw; (try dsimp only at hSw); go_simp; try with_reducible rfl)
  try simp only [Act.put, List.setIfInBounds_toArray, List.set_cons_zero, List.set_cons_succ]
  refine wpAnyZ_take (i := 4) (oi := ⟨some 90, _, _, _, _, _⟩) (v := ?va4) rfl (by kernel_rfl) (by decide) (by kernel_rfl) (by kernel_rfl) (by kernel_rfl) (fun _ _ _ h => h) (Or.inl ⟨by rfl, ?hya4⟩) hHeld ?resta4
  case hya4 => (intro w hSw; (try dsimp only at hSw); go_simp; try with_reducible rfl)
  try simp only [Act.put, List.setIfInBounds_toArray, List.set_cons_zero, List.set_cons_succ]
  refine wpAnyZ_take (i := 5) (oi := ⟨some 91, _, _, _, _, _⟩) (v := ?va5) rfl (by kernel_rfl) (by decide) (by kernel_rfl) (by kernel_rfl) (by kernel_rfl) (fun _ _ _ h => h) (Or.inl ⟨by rfl, ?hya5⟩) hHeld ?resta5
  case hya5 => (intro w hSw; (try dsimp only at hSw); go_simp; try with_reducible rfl)
  try simp only [Act.put, List.setIfInBounds_toArray, List.set_cons_zero, List.set_cons_succ]
  refine wpAnyZ_take (i := 6) (oi := ⟨some 92, _, _, _, _, _⟩) (v := ?va6) rfl (by kernel_rfl) (by decide) (by kernel_rfl) (by kernel_rfl) (by kernel_rfl) (fun _ _ _ h => h) (Or.inl ⟨by rfl, ?hya6⟩) hHeld ?resta6
  case hya6 => (intro w hSw; (try dsimp only at hSw); go_simp; try with_reducible rfl)
  try simp only [Act.put, List.setIfInBounds_toArray, List.set_cons_zero, List.set_cons_succ]
  refine wpAnyZ_take (i := 7) (oi := ⟨some 93, _, _, _, _, _⟩) (v := ?va7) rfl (by kernel_rfl) (by decide) (by kernel_rfl) (by kernel_rfl) (by kernel_rfl) (fun _ _ _ h => h) (Or.inl ⟨by rfl, ?hya7⟩) hHeld ?resta7
  case hya7 => (intro w hSw; (try dsimp only at hSw); go_simp; try with_reducible rfl)
  try simp only [Act.put, List.setIfInBounds_toArray, List.set_cons_zero, List.set_cons_succ]
  refine wpAnyZ_take (i := 8) (oi := ⟨some 94, _, _, _, _, _⟩) (v := ?va8) rfl (by kernel_rfl) (by decide) (by kernel_rfl) (by kernel_rfl) (by kernel_rfl) (fun _ _ _ h => h) (Or.inl ⟨by rfl, ?hya8⟩) hHeld ?resta8
  case hya8 => (intro w hSw; (try dsimp only at hSw); go_simp; try with_reducible rfl)
  try simp only [Act.put, List.setIfInBounds_toArray, List.set_cons_zero, List.set_cons_succ]
  refine wpAnyZ_take (i := 9) (oi := ⟨some 95, _, _, _, _, _⟩) (v := ?va9) rfl (by kernel_rfl) (by decide) (by kernel_rfl) (by kernel_rfl) (by kernel_rfl) (fun _ _ _ h => h) (Or.inl ⟨by rfl, ?hya9⟩) hHeld ?resta9
  case hya9 => (intro w hSw; (try dsimp only at hSw); go_simp; try with_reducible rfl)
  try simp only [Act.put, List.setIfInBounds_toArray, List.set_cons_zero, List.set_cons_succ]
  refine wpAnyZ_take (i := 10) (oi := ⟨some 96, _, _, _, _, _⟩) (v := ?va10) rfl (by kernel_rfl) (by decide) (by kernel_rfl) (by kernel_rfl) (by kernel_rfl) (fun _ _ _ h => h) (Or.inl ⟨by rfl, ?hya10⟩) hHeld ?resta10
  case hya10 => (intro w hSw; (try dsimp only at hSw); go_simp; try with_reducible rfl)
  try simp only [Act.put, List.setIfInBounds_toArray, List.set_cons_zero, List.set_cons_succ]
  refine wpAnyZ_take (i := 11) (oi := ⟨some 97, _, _, _, _, _⟩) (v := ?va11) rfl (by kernel_rfl) (by decide) (by kernel_rfl) (by kernel_rfl) (by kernel_rfl) (fun _ _ _ h => h) (Or.inl ⟨by rfl, ?hya11⟩) hHeld ?resta11
  case hya11 => (intro w hSw; (try dsimp only at hSw); go_simp; try with_reducible rfl)
  try simp only [Act.put, List.setIfInBounds_toArray, List.set_cons_zero, List.set_cons_succ]
  refine wpAnyZ_take (i := 12) (oi := ⟨some 98, _, _, _, _, _⟩) (v := ?va12) rfl (by kernel_rfl) (by decide) (by kernel_rfl) (by kernel_rfl) (by kernel_rfl) (fun _ _ _ h => h) (Or.inl ⟨by rfl, ?hya12⟩) hHeld ?resta12
  case hya12 => (intro w hSw; (try dsimp only at hSw); go_simp; try with_reducible rfl)
  try simp only [Act.put, List.setIfInBounds_toArray, List.set_cons_zero, List.set_cons_succ]
  refine wpAnyZ_take (i := 13) (oi := ⟨some 99, _, _, _, _, _⟩) (v := ?va13) rfl (by kernel_rfl) (by decide) (by kernel_rfl) (by kernel_rfl) (by kernel_rfl) (fun _ _ _ h => h) (Or.inl ⟨by rfl, ?hya13⟩) hHeld ?resta13
  case hya13 => (intro w hSw; (try dsimp only at hSw); go_simp; try with_reducible rfl)
  try simp only [Act.put, List.setIfInBounds_toArray, List.set_cons_zero, List.set_cons_succ]
  refine wpAnyZ_take (i := 14) (oi := ⟨some 100, _, _, _, _, _⟩) (v := ?va14) rfl (by kernel_rfl) (by decide) (by kernel_rfl) (by kernel_rfl) (by kernel_rfl) (fun _ _ _ h => h) (Or.inl ⟨by rfl, ?hya14⟩) hHeld ?resta14
  case hya14 => (intro w hSw; (try dsimp only at hSw); go_simp; try with_reducible rfl)
  try simp only [Act.put, List.setIfInBounds_toArray, List.set_cons_zero, List.set_cons_succ]
  have hst0 := hsrc.out _ (Below.refl _ w2)
  have hp3 : w2.drew.cell? ⟨p, 0, none⟩ = some (.slice (some ⟨g, 0, none⟩) t.length c) := hp1
  obtain ⟨i0, hq, hz0, hz1, hz2⟩ := info_parts rowInfo
  have hap : ∃ D c4 W4, (Builtin.append_ #[151, 151] 151 #[.slice (some ⟨g, 0, none⟩) i i, V2]).run Tryd.prog w2.drew = .ok (.slice (some ⟨D, 0, none⟩) (i + (t.length - (i + 1))) c4) W4 ∧ Below w2.heap.size w2 W4 ∧
      OwnT W4 (.slice (some ⟨D, 0, none⟩) (i + (t.length - (i + 1))) c4) (delT t key) ∧ (D = g ∨ w2.heap.size ≤ D) := by
    have hsv := hsrc.out w2.drew ((Below.refl _ w2).drew)
    have hlt := HLI.out
    have hown : OwnT w2.drew (.slice (some ⟨g, 0, none⟩) t.length c) t := h1.out.own
    by_cases hni : t.length - (i + 1) = 0
    · rw [hni] at hsv ⊢
      have hnil2 : cellsT (t.drop (i + 1)) = [] := List.eq_nil_of_length_eq_zero (by simpa using hsv.newsLen)
      rw [hnil2] at hsv
      have hdn : t.drop (i + 1) = [] := List.drop_of_length_le (by omega)
      refine ⟨g, i, w2.drew, run_append_nothing w2.drew _ _ _ _ i0 rowsUnder hq _ i i (Nat.le_refl _) _ (by rw [hz1]; exact hsv), (Below.refl _ w2).drew, ?_, .inl rfl⟩
      rw [HSe.out, hdn, List.append_nil]
      exact own_take hown (by omega)
    · have hr3 : RowsAt w2.drew g t := rowsAt_of (h1.out.below ((Below.refl _ w2).drew))
      obtain ⟨cap, W4, hr, ho, hb4, _⟩ := run_app_grow w2.drew 151 151 163 i0 _ 2 32 0 rowsUnder hq hz0 hz1 hz2 rfl (some ⟨g, 0, none⟩) i i (cellsT (t.take i)) (by rw [cellsT_length, List.length_take]; omega) (fun h => by cases h) (fun a ha j u hu => by
        cases ha
        have hadd : (⟨g, 0, none⟩ : Addr).add j = ⟨g, j, none⟩ := by unfold Addr.add; split <;> simp_all
        rw [hadd]
        rw [cellsT_take] at hu
        obtain ⟨hlt', _⟩ := List.getElem?_eq_some_iff.1 hu
        rw [List.length_take, cellsT_length] at hlt'
        rw [List.getElem?_take_of_lt (by omega)] at hu
        obtain ⟨q, hq⟩ : ∃ q, j = q * 2 ∨ j = q * 2 + 1 := ⟨j / 2, by omega⟩
        rcases hq with rfl | rfl
        · rw [(cellsT_at t q (by omega)).1] at hu; rw [(hr3 q (by omega)).1, hu]
        · rw [(cellsT_at t q (by omega)).2] at hu; rw [(hr3 q (by omega)).2, hu]) V2 (t.length - (i + 1)) _ hsv (by omega) (by omega) (by omega) (Nat.zero_le _)
      refine ⟨_, cap, W4, hr, ((Below.refl _ w2).drew).trans hb4, ?_, .inr (Nat.le_refl _)⟩
      have hlen : (delT t key).length = i + (t.length - (i + 1)) := by rw [HSe.out]; simp; omega
      have e : cellsT (t.take i) ++ cellsT (t.drop (i + 1)) = cellsT (delT t key) := by rw [HSe.out, cellsT_append]
      rw [e] at ho
      exact OwnT.ofOwns (b := 0) (by rw [hlen]; exact ho)
  obtain ⟨D, c4, W4, hr15, hb4, ho4, hD⟩ := hap
  have hp4 := (hb4.cell (p := ⟨p, 0, none⟩) (World.block_lt_of_cell? w2 ⟨p, 0, none⟩ hp1)).trans hp1
  have h4 := Lib.hid (h1.out.below hb4)
  have hf4 := h4.out.row.free 0
  have HO4 := Lib.hid ho4; have HD := Lib.hid hD
  have HW0 := Lib.hid (HH.out.below hb02)
  clear ho4 hs1 hs2 hst0 hD hsrc
  refine wpAnyZ_all (rs := [15]) (by kernel_rfl) (by simp) ?_
  intro i hi
  rw [List.mem_singleton] at hi
  subst hi
  refine wpOp_step (o := ⟨some 101, _, _, _, _, _⟩) rfl (fun K hK => ?_)
  rw [if_pos (by rfl)]
  refine wp_app (.tmp 93) (.tmp 100) 151 rfl rfl rfl hr15 ?_
  refine hK _ _ ⟨fun _ => hp4, ?_⟩
  clear hK K
  try simp only [Act.put, List.setIfInBounds_toArray, List.set_cons_zero, List.set_cons_succ]
  refine wpAnyZ_all (rs := [16]) (by kernel_rfl) (by simp) ?_
  intro i hi
  rw [List.mem_singleton] at hi
  subst hi
  refine wpOp_step (o := ⟨some 102, _, _, _, _, _⟩) rfl (fun K hK => ?_)
  rw [if_pos (by rfl)]
  go_simp
  refine hK _ _ ⟨fun _ => hp4, ?_⟩
  clear hK K
  try simp only [Act.put, List.setIfInBounds_toArray, List.set_cons_zero, List.set_cons_succ]
  refine wpAnyZ_all (rs := [17]) (by kernel_rfl) (by simp) ?_
  intro i hi
  rw [List.mem_singleton] at hi
  subst hi
  refine wpOp_step (o := ⟨some 103, _, _, _, _, _⟩) rfl (fun K hK => ?_)
  rw [if_pos (by rfl)]
  go_simp
  refine hK _ _ ⟨fun _ => hp4, ?_⟩
  clear hK K
  try simp only [Act.put, List.setIfInBounds_toArray, List.set_cons_zero, List.set_cons_succ]
  refine wpAnyZ_all (rs := [18]) (by kernel_rfl) (by simp) ?_
  intro i hi
  rw [List.mem_singleton] at hi
  subst hi
  refine wpOp_step (o := ⟨none, _, _, _, _, _⟩) rfl (fun K hK => ?_)
  rw [if_pos (by rfl)]
  go_simp
  refine hK _ _ ⟨fun h => absurd rfl h, ?_⟩
  clear hK K
  try simp only [Act.put, List.setIfInBounds_toArray, List.set_cons_zero, List.set_cons_succ]
  refine wpAnyZ_done (by kernel_rfl) ?_ _
  refine NoPanic.normal ?_
  clear hr15 hp1 hp3 hHeld hwrap c0 c1 c2 c3 hq1 hq2
  go_wp2_with fail
  go_ret2
  have e : doT t (⟨4, key, value, old⟩ : OpT) = (delT t key, u, 0) := by unfold doT; rw [HC.out, if_neg (by simp)]; simp only [show ¬ (4 : Int) = 2 by decide, show ¬ (4 : Int) = 3 by decide, if_false]; rw [HK.out]; simp
  unfold DoIs
  rw [e]
  have hgp : g ≠ p := fun e => h1.out.ne (by rw [← e]; rfl)
  have hDp : (Value.slice (some ⟨D, 0, none⟩) (i + (t.length - (i + 1))) c4).ownBlock ≠ some p := by
    simp only [Value.ownBlock, ne_eq, Option.some.injEq]
    have := h1.out.lt
    rcases HD.out with rfl | h
    · exact hgp
    · omega
  refine ⟨rfl, _, Moved.ofBelow hb02 ⟨⟨h4.out.row.setCell 0 _, HO4.out.setOther hDp _, hDp⟩, ((Only.refl _ w2).addBelow hb4 (Nat.le_refl _)).setCell (.inl (.inl rfl)) _, fun g' hg' => ?_⟩⟩
  simp only [Value.ownBlock, Option.some.injEq] at hg' ⊢
  subst hg'
  rcases HD.out with rfl | h
  · exact .inl rfl
  · exact .inr h
theorem do_any (t : Tab) (o : OpT) (p : Nat) (v : Value) (w : World) (h : TableAt w p v t) (ht : TabOk t) :
    Calls Tryd.prog 62 #[.pointer (some ⟨p, 0, none⟩), opV o] w (DoIs t o p v w) := by
  by_cases hc : checkT o = 0
  · obtain ⟨h1, h5, _⟩ := checkT_zero hc
    obtain ⟨kind, key, value, old⟩ := o
    simp only at h1 h5
    unfold opV
    simp only
    cases hk : lookT t key with
    | none =>
      have hK : kind = 1 ∨ kind = 2 ∨ kind = 3 ∨ kind = 4 ∨ kind = 5 := by omega
      rcases hK with rfl | rfl | rfl | rfl | rfl
      · exact do_none1 t key value old p v w h ht hc hk
      · by_cases h16 : t.length = 16
        · exact do_put_full t key value old p v w h ht hc hk h16
        · exact do_put_new t key value old p v w h ht hc hk h16
      · by_cases h16 : t.length = 16
        · exact do_app_full t key value old p v w h ht hc hk h16
        · exact do_app_new t key value old p v w h ht hc hk h16
      · exact do_none4 t key value old p v w h ht hc hk
      · exact do_none5 t key value old p v w h ht hc hk
    | some u =>
      have hK : kind = 1 ∨ kind = 2 ∨ kind = 3 ∨ kind = 4 ∨ kind = 5 := by omega
      rcases hK with rfl | rfl | rfl | rfl | rfl
      · exact do_get t key value old p v w h ht hc u hk
      · exact do_put_old t key value old p v w h ht hc u hk
      · by_cases hl : 64 < (u ++ value).length
        · exact do_app_long t key value old p v w h ht hc u hk hl
        · exact do_app_old t key value old p v w h ht hc u hk hl
      · exact do_del t key value old p v w h ht hc u hk
      · by_cases hu : u = old
        · exact do_swap_ok t key value old p v w h ht hc u hk hu
        · exact do_swap_no t key value old p v w h ht hc u hk hu
  · refine (do_bad t o _ w hc).mono fun e w' ⟨he, hb⟩ => ⟨he, v, ?_⟩
    have e : (doT t o).1 = t := by unfold doT; rw [if_pos hc]
    rw [e]
    exact Moved.ofBelow hb (Moved.refl (h.below hb))
end Go.Proofs.YtocgnkenlfdffaaDoor
