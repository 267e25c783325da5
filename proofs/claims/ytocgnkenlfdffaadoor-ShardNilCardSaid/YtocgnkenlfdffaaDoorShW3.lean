/- package shard: Do, where it does an operation; Do. -/
import Derived.Test.YtocgnkenlfdffaaDoorShW2
namespace Go.Proofs.YtocgnkenlfdffaaDoor
open Go Go.RowKit Go.Wap
theorem cellsC_set (l : List Cl) (i : Nat) (c : Cl) (h : i < l.length) : cellsC (l.set i c) = (((cellsC l).set (i * 3) (.int .i64 c.n)).set (i * 3 + 1) (.int .i64 c.e)).set (i * 3 + 1 + 1) (S c.v) := by
  unfold cellsC
  induction l generalizing i with
  | nil => simp at h
  | cons d l ih =>
    cases i with
    | zero => simp
    | succ i =>
      have := ih i (by simpa using h)
      rw [show (i + 1) * 3 = i * 3 + 3 by omega, List.set_cons_succ, List.flatMap_cons, this, List.flatMap_cons]
      simp
theorem cellsS_set (p : Nat) (h : Sh) (t : Tab) (i : Nat) (c : Cl) (hi : i < h.cl.length) :
    (((cellsS p h).setIfInBounds (2 + i * 3) (.int .i64 c.n)).setIfInBounds (2 + i * 3 + 1) (.int .i64 c.e)).setIfInBounds (2 + i * 3 + 1 + 1) (S c.v) = cellsS p { h with tab := t, cl := h.cl.set i c } := by
  unfold cellsS
  simp only [List.setIfInBounds_toArray]
  rw [cellsC_set _ _ _ hi, show 2 + i * 3 = i * 3 + 1 + 1 by omega]
  simp [List.set_cons_succ]
theorem keep5 {w1 w2 : World} {s b : Nat} {z : Value} {o : OpT} {F : Nat → Prop} (h : w1.cell? ⟨s, 1, none⟩ = some z ∧ OpBox w1 b o) (ho : Only F w1 w2) (hs : ¬ F s) (hb : ¬ F b) : w2.cell? ⟨s, 1, none⟩ = some z ∧ OpBox w2 b o :=
  ⟨(ho.cell (p := ⟨s, 1, none⟩) (World.block_lt_of_cell? w1 ⟨s, 1, none⟩ h.1) hs).trans h.1, h.2.only ho hb⟩
set_option maxRecDepth 100000 in
set_option maxHeartbeats 1000000 in
theorem do_now (s p : Nat) (v : Value) (h : Sh) (w : World) (a : ShardAt w s p v h) (ho : ShOk h) (i : Nat) (n : Int) (o : OpT) (hi : i < h.cl.length) (h3 : 1 ≤ n) (h4 : n ≤ Big) (hs : h.st = 1) (hn : h.cl[i].n < n) :
    Calls Tryd.prog 34 #[.pointer (some ⟨s, 0, none⟩), .int .i64 (i : Int), .int .i64 n, opV o] w fun e w' =>
      e = .returned (.tuple #[ansV ⟨n, (doT h.tab o).2.2, (doT h.tab o).2.1⟩, .bool true, .int .i64 0]) ∧ Turned w w' s p v { h with tab := (doT h.tab o).1, cl := h.cl.set i ⟨n, (doT h.tab o).2.2, (doT h.tab o).2.1⟩ } := by
  unfold Big at h4
  have h8 := ho.eight
  have hi8 : i < 8 := by omega
  have H8 := Lib.hid h8
  have hbA := boxA_below w o #[.int .i64 0, .string ⟨#[]⟩]
  have a1 := a.below hbA
  have ob1 : OpBox (boxA w o #[.int .i64 0, .string ⟨#[]⟩]) w.heap.size o := OpBox.below (opCells w o) ((Below.refl _ _).alloc (Nat.le_refl _) _)
  obtain ⟨c0, c1, c2⟩ := a1.client i hi
  have hst : ∀ W, Below w.heap.size w W → Calls Tryd.prog 31 #[.pointer (some ⟨s, 0, none⟩)] W fun e w' => e = .returned (.int .i64 1) ∧ W = w' := fun W hW => by
    have := status_any s p v h W (a.below hW)
    rw [hs] at this; exact this
  obtain ⟨r, hr⟩ : ∃ r, r = doT h.tab o := ⟨_, rfl⟩
  have hdo : ∀ W, TableAt W p v h.tab → Calls Tryd.prog 62 #[.pointer (some ⟨p, 0, none⟩), .agg #[.int .i64 o.kind, S o.key, S o.value, S o.old]] W fun e w' => e = .returned (.tuple #[S r.2.1, .int .i64 r.2.2]) ∧ ∃ v', Moved W w' p v v' r.1 := fun W hW => by
    rw [hr]; exact do_any h.tab o p v W hW ho.tab
  rw [← hr]
  obtain ⟨t', ans, err⟩ := r
  simp only at hdo ⊢
  obtain ⟨m, hm⟩ : ∃ m, m = h.cl[i].n := ⟨_, rfl⟩
  rw [← hm] at hn c0
  have hlo := a.lt
  have HS := Lib.hid hst; have HDO := Lib.hid hdo; have HA := Lib.hid a; have HA1 := Lib.hid a1; have HBA := Lib.hid hbA; have OB := Lib.hid ob1
  unfold opV
  have hn1 : ¬ n < m := by omega
  have hn2 : ¬ n = m := by omega
  have hn3 : (n == m) = false := by simpa using hn2
  have hpt := a1.pt
  clear a1 hst hm a ho c1 c2 h8 hdo hr hbA ob1 hs
  go_enter Tryd.func34, Tryd.ntmps34
  go_upto_region 10 with (go_at_call 31; refine (HS.out _ (boxA_below w o #[.int .i64 0, .string ⟨#[]⟩])).mono ?_; rintro e w' ⟨rfl, rfl⟩)
  have hfar : ∀ b, b = w.heap.size ∨ b = w.heap.size + 1 ∨ b = s → ¬ (b = p ∨ v.ownBlock = some b) := fun b hb hh => by
    obtain ⟨l1, l2, l3⟩ := hlo
    have hsp := HA.out.sp
    have hsv := HA.out.sv
    rcases hh with hh | hh
    · omega
    · have := l3 b hh
      rcases hb with rfl | rfl | rfl
      · omega
      · omega
      · exact hsv hh
  have HFAR := Lib.hid hfar
  have hrA := boxA_row w o #[.int .i64 0, .string ⟨#[]⟩]
  generalize hW0 : boxA w o #[.int .i64 0, .string ⟨#[]⟩] = W0 at HA1 HBA OB c0 hpt hrA
  have HRA := Lib.hid hrA
  clear hfar hrA hW0
  refine wp_region_noPanic ?_
  refine wp_region_held_drew (S := fun w' => w'.cell? ⟨s, 1, none⟩ = some (.pointer (some ⟨p, 0, none⟩)) ∧ OpBox w' w.heap.size o) (by kernel_rfl) ⟨hpt, OB.out⟩ (fun hHeld => ?_)
  refine wpAnyH_take (i := 0) (oi := ⟨some 60, _, _, _, _, _⟩) (v := ?va0) rfl (by kernel_rfl) (by kernel_rfl) (by kernel_rfl) (fun _ _ _ h => h) (Or.inl ⟨by rfl, ?hya0⟩) hHeld ?resta0
  case hya0 => (intro w hSw; obtain ⟨hSw, hOB⟩ := hSw; (try dsimp only at hSw); go_simp; try with_reducible rfl)
  try simp only [Act.put, List.setIfInBounds_toArray, List.set_cons_zero, List.set_cons_succ]
  refine wpAnyH_take (i := 1) (oi := ⟨some 61, _, _, _, _, _⟩) (v := ?va1) rfl (by kernel_rfl) (by kernel_rfl) (by kernel_rfl) (fun _ _ _ h => h) (Or.inl ⟨by rfl, ?hya1⟩) hHeld ?resta1
  case hya1 => (intro w hSw; obtain ⟨hSw, hOB⟩ := hSw; (try dsimp only at hSw); go_simp; try with_reducible rfl)
  try simp only [Act.put, List.setIfInBounds_toArray, List.set_cons_zero, List.set_cons_succ]
  refine wpAnyH_take (i := 2) (oi := ⟨some 62, _, _, _, _, _⟩) (v := ?va2) rfl (by kernel_rfl) (by kernel_rfl) (by kernel_rfl) (fun _ _ _ h => h) (Or.inl ⟨by rfl, ?hya2⟩) hHeld ?resta2
  case hya2 => (intro w hSw; obtain ⟨hSw, hOB⟩ := hSw; (try dsimp only at hSw); go_simp; try with_reducible rfl)
  try simp only [Act.put, List.setIfInBounds_toArray, List.set_cons_zero, List.set_cons_succ]
  refine wpAnyH_take (i := 3) (oi := ⟨some 63, _, _, _, _, _⟩) (v := ?va3) rfl (by kernel_rfl) (by kernel_rfl) (by kernel_rfl) (fun _ _ _ h => h) (Or.inl ⟨by rfl, ?hya3⟩) hHeld ?resta3
  case hya3 => (intro w hSw; obtain ⟨hSw, hOB⟩ := hSw; (try dsimp only at hSw); go_simp; try with_reducible rfl)
  try simp only [Act.put, List.setIfInBounds_toArray, List.set_cons_zero, List.set_cons_succ]
  refine wpAnyH_take (i := 4) (oi := ⟨some 64, _, _, _, _, _⟩) (v := ?va4) rfl (by kernel_rfl) (by kernel_rfl) (by kernel_rfl) (fun _ _ _ h => h) (Or.inl ⟨by rfl, ?hya4⟩) hHeld ?resta4
  case hya4 => (intro w hSw; obtain ⟨hSw1, hb0, hb1, hb2, hb3⟩ := hSw; skip; go_simp; try with_reducible rfl)
  try simp only [Act.put, List.setIfInBounds_toArray, List.set_cons_zero, List.set_cons_succ]
  refine wpAnyH_all (rs := [5]) (by kernel_rfl) (by simp) ?_
  intro i hi
  rw [List.mem_singleton] at hi
  subst hi
  refine wpOp_step (o := ⟨some 65, _, _, _, _, _⟩) rfl (fun K hK => ?_)
  rw [if_pos (by rfl)]
  go_simp
  (go_at_call 62; refine (HDO.out _ (HA1.out.tab.below ((Below.refl _ W0).drew))).mono ?_; rintro e w3 ⟨rfl, v3, hm3⟩; have HM := Lib.hid hm3; have hHeld3 := keep5 hHeld hm3.only (HFAR.out s (.inr (.inr rfl))) (HFAR.out _ (.inl rfl)); clear hm3; dsimp only)
  refine hK _ _ ⟨hHeld3, ?_⟩
  clear hK K
  try simp only [Act.put, List.setIfInBounds_toArray, List.set_cons_zero, List.set_cons_succ]
  refine wpAnyH_take (i := 6) (oi := ⟨some 59, _, _, _, _, _⟩) (v := ?vb6) rfl (by kernel_rfl) (by kernel_rfl) (by kernel_rfl) (fun _ _ _ h => h) (Or.inl ⟨by rfl, ?hyb6⟩) hHeld3 ?restb6
  case hyb6 => (intro w hSw; (try dsimp only at hSw); go_simp; try with_reducible rfl)
  try simp only [Act.put, List.setIfInBounds_toArray, List.set_cons_zero, List.set_cons_succ]
  refine wpAnyH_take (i := 7) (oi := ⟨some 66, _, _, _, _, _⟩) (v := ?vb7) rfl (by kernel_rfl) (by kernel_rfl) (by kernel_rfl) (fun _ _ _ h => h) (Or.inl ⟨by rfl, ?hyb7⟩) hHeld3 ?restb7
  case hyb7 => (intro w hSw; (try dsimp only at hSw); go_simp; try with_reducible rfl)
  try simp only [Act.put, List.setIfInBounds_toArray, List.set_cons_zero, List.set_cons_succ]
  refine wpAnyH_take (i := 8) (oi := ⟨some 67, _, _, _, _, _⟩) (v := ?vb8) rfl (by kernel_rfl) (by kernel_rfl) (by kernel_rfl) (fun _ _ _ h => h) (Or.inl ⟨by rfl, ?hyb8⟩) hHeld3 ?restb8
  case hyb8 => (intro w hSw; (try dsimp only at hSw); go_simp; try with_reducible rfl)
  try simp only [Act.put, List.setIfInBounds_toArray, List.set_cons_zero, List.set_cons_succ]
  refine wpAnyH_take (i := 9) (oi := ⟨some 12, _, _, _, _, _⟩) (v := ?vb9) rfl (by kernel_rfl) (by kernel_rfl) (by kernel_rfl) (fun _ _ _ h => h) (Or.inl ⟨by rfl, ?hyb9⟩) hHeld3 ?restb9
  case hyb9 => (intro w hSw; (try dsimp only at hSw); go_simp; try with_reducible rfl)
  try simp only [Act.put, List.setIfInBounds_toArray, List.set_cons_zero, List.set_cons_succ]
  refine wpAnyH_take (i := 10) (oi := ⟨some 13, _, _, _, _, _⟩) (v := ?vb10) rfl (by kernel_rfl) (by kernel_rfl) (by kernel_rfl) (fun _ _ _ h => h) (Or.inl ⟨by rfl, ?hyb10⟩) hHeld3 ?restb10
  case hyb10 => (intro w hSw; (try dsimp only at hSw); go_simp; try with_reducible rfl)
  try simp only [Act.put, List.setIfInBounds_toArray, List.set_cons_zero, List.set_cons_succ]
  refine wpAnyH_done (by kernel_rfl) ?_ _
  refine NoPanic.normal ?_
  have hO3 := HM.out.only
  have hs3 : RowV w3 s 124 (cellsS p h) := HA1.out.row.drew.only hO3 (HFAR.out s (.inr (.inr rfl)))
  have hA3 : RowV w3 (w.heap.size + 1) 74 #[.int .i64 0, .string ⟨#[]⟩] := HRA.out.drew.only hO3 (HFAR.out _ (.inr (.inl rfl)))
  have hz : (cellsS p h).size = 26 := cellsS_size p h H8.out
  have f0 := hs3.free (2 + i * 3); have f1 := hs3.free (2 + i * 3 + 1); have f2 := hs3.free (2 + i * 3 + 1 + 1)
  have k0 : ∃ x, w3.cell? ⟨s, 2 + i * 3, none⟩ = some x := ⟨_, by rw [hs3.cell, Array.getElem?_eq_getElem (by omega)]⟩
  have k1 : ∃ x, w3.cell? ⟨s, 2 + i * 3 + 1, none⟩ = some x := ⟨_, by rw [hs3.cell, Array.getElem?_eq_getElem (by omega)]⟩
  have k2 : ∃ x, w3.cell? ⟨s, 2 + i * 3 + 1 + 1, none⟩ = some x := ⟨_, by rw [hs3.cell, Array.getElem?_eq_getElem (by omega)]⟩
  obtain ⟨x0, k0⟩ := k0; obtain ⟨x1, k1⟩ := k1; obtain ⟨x2, k2⟩ := k2
  have q0 : w3.cell? ⟨w.heap.size + 1, 0, none⟩ = some (.int .i64 0) := hA3.cell 0
  have q1 : w3.cell? ⟨w.heap.size + 1, 1, none⟩ = some (.string ⟨#[]⟩) := hA3.cell 1
  have r0 := hA3.free 0; have r1 := hA3.free 1
  have hsne : ¬ s = w.heap.size + 1 := by have := hlo.1; omega
  have HS3 := Lib.hid hs3; have HA3 := Lib.hid hA3
  clear hHeld hHeld3 hO3 hs3 hA3 hz c0 hpt
  go_wp2_with fail
  have hm := HM.out
  obtain ⟨l1, l2, l3⟩ := hlo
  have hW0 := HBA.out.size
  have hW0s : w.heap.size + 1 < W0.heap.size := HRA.out.lt
  have e0 : ∀ {a b : Nat}, a = b → RowV w3 s 124 (cellsS p h) := fun _ => HS3.out
  have hr1 := ((HS3.out.setCell (2 + i * 3) (.int .i64 n)).setCell (2 + i * 3 + 1) (.int .i64 err)).setCell (2 + i * 3 + 1 + 1) (S ans)
  rw [cellsS_set p h t' i ⟨n, err, ans⟩ hi] at hr1
  have hr2 := (hr1.setOther (a := ⟨w.heap.size + 1, 0, none⟩) (by simp; omega) (.int .i64 err)).setOther (a := ⟨w.heap.size + 1, 1, none⟩) (by simp; omega) (S ans)
  have ha2 := ((((HA3.out.setOther (a := ⟨s, 2 + i * 3, none⟩) (by simp; omega) (.int .i64 n)).setOther (a := ⟨s, 2 + i * 3 + 1, none⟩) (by simp; omega) (.int .i64 err)).setOther (a := ⟨s, 2 + i * 3 + 1 + 1, none⟩) (by simp; omega) (S ans)).setCell 0 (.int .i64 err)).setCell 1 (S ans)
  have hO : Only (fun b => b = s ∨ b = w.heap.size + 1) w3 (((((w3.setCell ⟨s, 2 + i * 3, none⟩ (.int .i64 n)).setCell ⟨s, 2 + i * 3 + 1, none⟩ (.int .i64 err)).setCell ⟨s, 2 + i * 3 + 1 + 1, none⟩ (S ans)).setCell ⟨w.heap.size + 1, 0, none⟩ (.int .i64 err)).setCell ⟨w.heap.size + 1, 1, none⟩ (S ans)) :=
    (((((Only.refl _ w3).setCell (p := ⟨s, 2 + i * 3, none⟩) (.inl (.inl rfl)) _).setCell (p := ⟨s, 2 + i * 3 + 1, none⟩) (.inl (.inl rfl)) _).setCell (p := ⟨s, 2 + i * 3 + 1 + 1, none⟩) (.inl (.inl rfl)) _).setCell (p := ⟨w.heap.size + 1, 0, none⟩) (.inl (.inr rfl)) _).setCell (p := ⟨w.heap.size + 1, 1, none⟩) (.inl (.inr rfl)) _
  have hv3 : ∀ g, v3.ownBlock = some g → g ≠ s ∧ g ≠ w.heap.size + 1 := fun g hg => by
    rcases hm.new g hg with hh | hh
    · have h1 := l3 g hh
      exact ⟨fun e => HA.out.sv (by rw [hh, e]), by omega⟩
    · have : W0.heap.size ≤ g := hh
      exact ⟨by omega, by omega⟩
  have htab := hm.at_.only hO (by have := HA.out.sp; omega) (fun g hg hh => by have := hv3 g hg; omega)
  refine bodyPost_ret (results_row_tmp2 rfl _ rfl ha2 Tryd.underlying74 rfl ansInfo) rfl ⟨rfl, ⟨p, v3, ⟨hr2, htab, HA.out.sp, fun e => (hv3 s e).1 rfl⟩, ?_⟩, ?_⟩
  · intro b hb
    rcases hb with rfl | rfl | hb
    · exact .inl (.inl rfl)
    · exact .inl (.inr (.inl rfl))
    · rcases hm.new b hb with hh | hh
      · exact .inl (.inr (.inr hh))
      · right; have : W0.heap.size ≤ b := hh; omega
  · have o1 : Only (Foot s p v) w W0.drew := (Only.refl _ w).addBelow HBA.out.drew (Nat.le_refl _)
    have o2 : Only (Foot s p v) w w3 := o1.trans (hm.only.mono (fun k _ hk => .inr hk))
    exact ⟨hO.os.trans o2.os, hO.tape.trans o2.tape, hO.output.trans o2.output, Nat.le_trans o2.size hO.size, fun k hk hs => (hO.block k (Nat.lt_of_lt_of_le hk o2.size) (fun hh => by
      rcases hh with rfl | rfl
      · exact hs (.inl rfl)
      · omega)).trans (o2.block k hk hs)⟩
/-- what Do answers -/
def SDoIs (h : Sh) (c n : Int) (o : OpT) (s p : Nat) (v : Value) (w : World) (e : Ending) (w' : World) : Prop :=
  e = .returned (.tuple #[ansV (doS h c n o).2.1, .bool (doS h c n o).2.2.1, .int .i64 (doS h c n o).2.2.2]) ∧ Turned w w' s p v (doS h c n o).1
theorem sdo_any (s p : Nat) (v : Value) (h : Sh) (w : World) (a : ShardAt w s p v h) (ho : ShOk h) (c n : Int) (o : OpT) :
    Calls Tryd.prog 34 #[.pointer (some ⟨s, 0, none⟩), .int .i64 c, .int .i64 n, opV o] w (SDoIs h c n o s p v w) := by
  by_cases hb : c < 0 ∨ 8 ≤ c ∨ n < 1 ∨ Big < n
  · have e : doS h c n o = (h, cl0, false, 1) := by unfold doS; rw [if_pos hb]
    unfold SDoIs
    rw [e]
    exact (do_arg _ c n o w hb).mono fun _ _ ⟨he, hbl⟩ => ⟨he, Turned.same a hbl⟩
  · have h1 : 0 ≤ c := by omega
    have h2 : c < 8 := by omega
    have h3 : 1 ≤ n := by omega
    have h4 : n ≤ Big := by omega
    by_cases hs : h.st = 1
    · obtain ⟨i, rfl⟩ := Int.eq_ofNat_of_zero_le h1
      have h8 := ho.eight
      have hi : i < h.cl.length := by omega
      have hg : h.cl.getD (i : Int).toNat cl0 = h.cl[i] := by simp [List.getD, hi]
      rcases Int.lt_trichotomy n h.cl[i].n with hn | hn | hn
      · have e : doS h i n o = (h, cl0, false, 6) := by unfold doS; rw [if_neg hb, if_neg (by omega), hg, if_pos hn]
        unfold SDoIs
        rw [e]
        exact (do_low s p v h w a ho i n o hi h3 h4 hs hn).mono fun _ _ ⟨he, hbl⟩ => ⟨he, Turned.same a hbl⟩
      · have e : doS h i n o = (h, h.cl[i], false, 0) := by unfold doS; rw [if_neg hb, if_neg (by omega), hg, if_neg (by omega), if_pos hn]
        unfold SDoIs
        rw [e]
        exact (do_same s p v h w a ho i n o hi h3 h4 hs hn).mono fun _ _ ⟨he, hbl⟩ => ⟨he, Turned.same a hbl⟩
      · have e : doS h i n o = ({ h with tab := (doT h.tab o).1, cl := h.cl.set i ⟨n, (doT h.tab o).2.2, (doT h.tab o).2.1⟩ }, ⟨n, (doT h.tab o).2.2, (doT h.tab o).2.1⟩, true, 0) := by
          unfold doS; rw [if_neg hb, if_neg (by omega), hg, if_neg (by omega), if_neg (by omega)]; rfl
        unfold SDoIs
        rw [e]
        exact do_now s p v h w a ho i n o hi h3 h4 hs hn
    · have e : doS h c n o = (h, cl0, false, 7) := by unfold doS; rw [if_neg hb, if_pos hs]
      unfold SDoIs
      rw [e]
      exact (do_state _ c n h.st o w h1 h2 h3 h4 (fun W hW => status_any s p v h W (a.below hW)) hs).mono fun _ _ ⟨he, hbl⟩ => ⟨he, Turned.same a hbl⟩
end Go.Proofs.YtocgnkenlfdffaaDoor
