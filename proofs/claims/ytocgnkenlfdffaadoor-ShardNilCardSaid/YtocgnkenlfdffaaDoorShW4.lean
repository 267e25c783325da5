/- package shard: Content. -/
import Derived.Test.YtocgnkenlfdffaaDoorShW3
namespace Go.Proofs.YtocgnkenlfdffaaDoor
open Go Go.RowKit Go.Wap
/-- a list of texts that a call has just laid, as a slice of its own -/
theorem own_fresh (w : World) (news : List Value) (t : TypeId) (B : Nat) (hB : B ≤ w.heap.size) (hm : news.length ≤ 1000) : (w.alloc (.cells news.toArray t)).ownsRow B t 1 (.slice (some ⟨w.heap.size, 0, none⟩) news.length news.length) news.length news :=
  ⟨by simp, .inr ⟨w.heap.size, news.length, news.toArray, rfl, hB, heap_alloc_new w _, Nat.le_refl _, by unfold maxLen; omega, by simp, by simp⟩⟩
theorem run_index_cl {P : Program} (t e : TypeId) (n : Nat) (cs : Array Value) (j : Nat) (hj : j < n) (ht : P.underlying t = some (.array n e)) (fs : Array Field) (he : P.underlying e = some (.struct fs)) (hs : (P.info? e).map (·.size) = some 3)
    (x y z : Value) (hx : cs[j * 3]? = some x) (hy : cs[j * 3 + 1]? = some y) (hz : cs[j * 3 + 2]? = some z) (w : World) :
    (Instr.index t (.agg cs) (.int .i64 (j : Int))).run P w = .ok (.agg #[x, y, z]) w := by
  cases hq : P.info? e with
  | none => simp [hq] at hs
  | some i =>
    have hsz : i.size = 3 := by simpa [hq] using hs
    have hagg : (isAgg e).run P w = .ok true w := by
      unfold isAgg
      rw [Sem.run_bind, run_underlying he w]
      simp
    have hext : cs.extract (j * 3) (j * 3 + 3) = #[x, y, z] := by
      have h3 : j * 3 + 2 < cs.size := (Array.getElem?_eq_some_iff.1 hz).1
      apply Array.ext'
      rw [Array.toList_extract]
      have e : cs.toList = cs.toList.take (j * 3) ++ x :: y :: z :: cs.toList.drop (j * 3 + 3) := by
        have a1 : cs.toList[j * 3]? = some x := by rw [Array.getElem?_toList]; exact hx
        have a2 : cs.toList[j * 3 + 1]? = some y := by rw [Array.getElem?_toList]; exact hy
        have a3 : cs.toList[j * 3 + 2]? = some z := by rw [Array.getElem?_toList]; exact hz
        obtain ⟨l1, v1⟩ := List.getElem?_eq_some_iff.1 a1
        obtain ⟨l2, v2⟩ := List.getElem?_eq_some_iff.1 a2
        obtain ⟨l3, v3⟩ := List.getElem?_eq_some_iff.1 a3
        conv => lhs; rw [← List.take_append_drop (j * 3) cs.toList, List.drop_eq_getElem_cons l1, List.drop_eq_getElem_cons l2, List.drop_eq_getElem_cons l3, v1, v2, v3]
      have hl : (cs.toList.take (j * 3)).length = j * 3 := by rw [List.length_take, Array.length_toList]; omega
      rw [List.extract_eq_take_drop, e, List.drop_left' hl]
      rw [show j * 3 + 3 - j * 3 = 3 by omega]
      rfl
    simp [Instr.index, asIntOf, run_underlying ht w, hj, sizeOf, typeInfo, hq, hsz, part, hagg, hext]
theorem content_off (rv : Value) (x : Int) (w : World) (hst : ∀ W, w = W → Calls Tryd.prog 31 #[rv] W fun e w' => e = .returned (.int .i64 x) ∧ W = w') (h1 : x ≠ 1) (h2 : x ≠ 2) :
    Calls Tryd.prog 33 #[rv] w fun e w' => e = .returned (S []) ∧ w = w' := by
  have hb1 : (x != 1) = true := by simpa using h1
  have hb2 : (x != 2) = true := by simpa using h2
  have HS := Lib.hid hst
  clear hst
  go_enter Tryd.func33, Tryd.ntmps33
  go_wp2_with (go_at_call 31; refine (HS.out _ rfl).mono ?_; rintro e w' ⟨rfl, rfl⟩)
  go_ret
  exact ⟨rfl, rfl⟩
theorem clInfo : (Tryd.prog.info? 121).map (·.size) = some 3 := by kernel_rfl
theorem clsInfo : (Tryd.prog.info? 122).map (·.size) = some 24 := by kernel_rfl
theorem clsUnder : Tryd.prog.underlying 122 = some (.array 8 121) := by kernel_rfl
theorem ShardAt.cls {w : World} {s p : Nat} {v : Value} {h : Sh} (a : ShardAt w s p v h) : w.rangeAt s 2 (cellsC h.cl) := a.row.range 2 _ (fun j x hj => by
  unfold cellsS
  rw [List.getElem?_toArray, show 2 + j = j + 1 + 1 by omega, List.getElem?_cons_succ, List.getElem?_cons_succ]; exact hj)
/-- a client's record in a variable of its own -/
def ClAt (w : World) (b : Nat) (c : Cl) : Prop := w.cell? ⟨b, 0, none⟩ = some (.int .i64 c.n) ∧ w.cell? ⟨b, 1, none⟩ = some (.int .i64 c.e) ∧ w.cell? ⟨b, 2, none⟩ = some (S c.v)
theorem ClAt.below {w w' : World} {b : Nat} {c : Cl} (h : ClAt w b c) (hb : Below w.heap.size w w') : ClAt w' b c := by
  have hl := World.block_lt_of_cell? w ⟨b, 0, none⟩ h.1
  exact ⟨(hb.cell (p := ⟨b, 0, none⟩) hl).trans h.1, (hb.cell (p := ⟨b, 1, none⟩) hl).trans h.2.1, (hb.cell (p := ⟨b, 2, none⟩) hl).trans h.2.2⟩
theorem ClAt.grown {w w' wr : World} {B : Nat} {e : TypeId} {V : Value} {n : Nat} {xs : List Value} {c : Cl} (h : ClAt w wr.heap.size c) (ho : wr.ownsRow B e 1 V n xs) (hg : w.grownBy w' V.ownBlock) : ClAt w' wr.heap.size c := by
  have hl := World.block_lt_of_cell? w ⟨wr.heap.size, 0, none⟩ h.1
  have hO : Only (fun b => V.ownBlock = some b) w w' := (Only.refl _ w).grown hg (fun k hk => .inl hk)
  have hn : ¬ V.ownBlock = some wr.heap.size := fun hj => by
    rcases ho.2 with ⟨hv, _⟩ | ⟨g', cap, cur, hv, _, hh, _⟩
    · rw [hv] at hj; cases hj
    · rw [hv] at hj; cases hj; exact absurd (Array.getElem?_eq_some_iff.1 hh).1 (Nat.lt_irrefl _)
  exact ⟨(hO.cell (p := ⟨wr.heap.size, 0, none⟩) hl hn).trans h.1, (hO.cell (p := ⟨wr.heap.size, 1, none⟩) hl hn).trans h.2.1, (hO.cell (p := ⟨wr.heap.size, 2, none⟩) hl hn).trans h.2.2⟩
set_option maxRecDepth 100000 in
set_option maxHeartbeats 1000000 in
theorem content_on1 (s p : Nat) (v : Value) (h : Sh) (w : World) (a : ShardAt w s p v h) (ho : ShOk h) (hg : Glob w) (hx : h.st = 1) :
    Calls Tryd.prog 33 #[.pointer (some ⟨s, 0, none⟩)] w fun e w' => e = .returned (S (contS h.tab h.cl)) ∧ Below w.heap.size w w' := by
  obtain ⟨i0, hi, hz0, hz1, hz2⟩ := info_parts strInfo
  obtain ⟨hps, hpn, hpl⟩ := contS_parts ho.tab ho.eight ho.cl
  have h8 := ho.eight
  have hlc : (cellsC h.cl).length = 24 := by rw [cellsC_length, h8]
  have hst : ∀ W, w = W → Calls Tryd.prog 31 #[.pointer (some ⟨s, 0, none⟩)] W fun e w' => e = .returned (.int .i64 1) ∧ W = w' := fun W (e : w = W) => by
    have := status_any s p v h W (by rw [← e]; exact a)
    rw [hx] at this; exact this
  have HST := Lib.hid hst
  have HTX := Lib.hid (fun W (hW : Below w.heap.size w W) => ttext_any h.tab p v W (a.below hW).tab ho.tab (hg.next hW))
  have HA := Lib.hid a; have HO := Lib.hid ho; have HG := Lib.hid hg; have HPS := Lib.hid hps; have HPL := Lib.hid hpl; have HPN := Lib.hid hpn; have H8 := Lib.hid h8
  have hpt := a.pt
  have hrg := a.cls
  have hix : ∀ (k : Nat) (hk : k < h.cl.length) (W : World), (Instr.index 122 (.agg (cellsC h.cl).toArray) (.int .i64 (k : Int))).run Tryd.prog W = .ok (.agg #[.int .i64 h.cl[k].n, .int .i64 h.cl[k].e, S h.cl[k].v]) W := fun k hk W => by
    obtain ⟨h0, h1, h2⟩ := cellsC_at h.cl k hk
    exact run_index_cl _ _ 8 _ k (by omega) clsUnder _ Tryd.underlying121 clInfo _ _ _ (by rw [List.getElem?_toArray]; exact h0) (by rw [List.getElem?_toArray]; exact h1) (by rw [List.getElem?_toArray]; exact h2) W
  have HIX := Lib.hid hix
  have hi24 : (Tryd.prog.info? 122).map (·.size) = some (cellsC h.cl).length := by rw [hlc]; exact clsInfo
  have HI24 := Lib.hid hi24; have HRG := Lib.hid hrg
  clear a ho hg hps hpl hpn h8 hrg hix hlc hi24 hst hx
  go_enter Tryd.func33, Tryd.ntmps33
  go_wp2_with (first | (go_at_call 31; refine (HST.out _ rfl).mono ?_; rintro e w' ⟨rfl, rfl⟩) | (go_at_call 61; refine (HTX.out _ (Below.refl _ _)).mono ?_; rintro e w1 ⟨rfl, hb1⟩; have HB1 := Lib.hid hb1; have HR1 := Lib.hid (rangeAt_next HRG.out hb1); have hpt1 := (hb1.cell (p := ⟨s, 1, none⟩) HA.out.lt.1).trans hpt; clear hb1) | (refine wpList_load_mid rfl 122 (.tmp 22) rfl s 2 rfl (cellsC h.cl) _ (rangeAt_next HR1.out ((Below.refl _ w1).alloc (Nat.le_refl _) _)) clsUnder rfl HI24.out ?_))
  have hown := own_fresh w1 [S (textT h.tab)] 9 w.heap.size HB1.out.size (by simp)
  have hbA := HB1.out.alloc HB1.out.size (.cells #[S (textT h.tab)] 9)
  have HOWN := Lib.hid hown; have HBA := Lib.hid hbA
  clear hown hbA hpt hpt1
  go_loopw [3, 24] (fun v i wr => ∃ k : Nat, k ≤ 8 ∧ i = .int .i64 k ∧ wr.ownsRow w.heap.size 9 1 v (textT h.tab :: clL 0 (h.cl.take k)).length ((textT h.tab :: clL 0 (h.cl.take k)).map S) ∧ Below w.heap.size w wr) (fun _ i _ => 8 - (intOf i).toNat)
  case atStart => exact ⟨0, by omega, rfl, HOWN.out, HBA.out⟩
  case round =>
    obtain ⟨k, hk, rfl, hrow, hbw⟩ := hrel
    have HROW := Lib.hid hrow; have HBW := Lib.hid hbw
    have hsz := hbw.size
    by_cases hlt : k < 8
    · have hkl : k < h.cl.length := by have := H8.out; omega
      have hixk := HIX.out k hkl
      obtain ⟨c, hc⟩ : ∃ c, c = h.cl[k] := ⟨_, rfl⟩
      rw [← hc] at hixk
      have HC := Lib.hid hc
      have hcok := HO.out.cl c (by rw [hc]; exact List.getElem_mem hkl)
      have hrng := clOk_range hcok
      obtain ⟨hr1, hr2, hr3, hr4, hr5⟩ := hrng
      unfold Big at hr2
      clear hc hcok hrow hbw
      by_cases hpos : 0 < c.n
      · have hbC := (Below.refl wr.heap.size wr).alloc (Nat.le_refl _) (.cells #[.int .i64 c.n, .int .i64 c.e, S c.v] 121)
        have hcl : ClAt (wr.alloc (.cells #[.int .i64 c.n, .int .i64 c.e, S c.v] 121)) wr.heap.size c := ⟨cell_new wr _ _ 0, cell_new wr _ _ 1, cell_new wr _ _ 2⟩
        have HCL := Lib.hid hcl; have HBC := Lib.hid hbC
        clear hcl hbC
        go_wp2_with fail
        refine wp_region_noPanic ?_
        refine wp_region_held_drew (S := fun w' => ClAt w' wr.heap.size c) (by kernel_rfl) HCL.out (fun hHeld => ?_)
        have hw2 := HBC.out.drew
        refine wpAnyH_take (i := 0) (oi := ⟨some 31, _, _, _, _, _⟩) (v := ?va0) rfl (by kernel_rfl) (by kernel_rfl) (by kernel_rfl) (fun _ _ _ h => h) (Or.inl ⟨by rfl, ?hya0⟩) hHeld ?resta0
        case hya0 => (intro w hSw; obtain ⟨hx0, hx1, hx2⟩ := hSw; skip; go_simp; try with_reducible rfl)
        try simp only [Act.put, List.setIfInBounds_toArray, List.set_cons_zero, List.set_cons_succ]
        refine wpAnyH_take (i := 1) (oi := ⟨some 32, _, _, _, _, _⟩) (v := ?va1) rfl (by kernel_rfl) (by kernel_rfl) (by kernel_rfl) (fun _ _ _ h => h) (Or.inl ⟨by rfl, ?hya1⟩) hHeld ?resta1
        case hya1 => (intro w hSw; obtain ⟨hx0, hx1, hx2⟩ := hSw; skip; go_simp; try with_reducible rfl)
        try simp only [Act.put, List.setIfInBounds_toArray, List.set_cons_zero, List.set_cons_succ]
        refine wpAnyH_take (i := 3) (oi := ⟨some 34, _, _, _, _, _⟩) (v := ?va3) rfl (by kernel_rfl) (by kernel_rfl) (by kernel_rfl) (fun _ _ _ h => h) (Or.inl ⟨by rfl, ?hya3⟩) hHeld ?resta3
        case hya3 => (intro w hSw; obtain ⟨hx0, hx1, hx2⟩ := hSw; skip; go_simp; try with_reducible rfl)
        try simp only [Act.put, List.setIfInBounds_toArray, List.set_cons_zero, List.set_cons_succ]
        refine wpAnyH_take (i := 4) (oi := ⟨some 35, _, _, _, _, _⟩) (v := ?va4) rfl (by kernel_rfl) (by kernel_rfl) (by kernel_rfl) (fun _ _ _ h => h) (Or.inl ⟨by rfl, ?hya4⟩) hHeld ?resta4
        case hya4 => (intro w hSw; obtain ⟨hx0, hx1, hx2⟩ := hSw; skip; go_simp; try with_reducible rfl)
        try simp only [Act.put, List.setIfInBounds_toArray, List.set_cons_zero, List.set_cons_succ]
        refine wpAnyH_take (i := 6) (oi := ⟨some 37, _, _, _, _, _⟩) (v := ?va6) rfl (by kernel_rfl) (by kernel_rfl) (by kernel_rfl) (fun _ _ _ h => h) (Or.inl ⟨by rfl, ?hya6⟩) hHeld ?resta6
        case hya6 => (intro w hSw; obtain ⟨hx0, hx1, hx2⟩ := hSw; skip; go_simp; try with_reducible rfl)
        try simp only [Act.put, List.setIfInBounds_toArray, List.set_cons_zero, List.set_cons_succ]
        refine wpAnyH_take (i := 7) (oi := ⟨some 38, _, _, _, _, _⟩) (v := ?va7) rfl (by kernel_rfl) (by kernel_rfl) (by kernel_rfl) (fun _ _ _ h => h) (Or.inl ⟨by rfl, ?hya7⟩) hHeld ?resta7
        case hya7 => (intro w hSw; obtain ⟨hx0, hx1, hx2⟩ := hSw; skip; go_simp; try with_reducible rfl)
        try simp only [Act.put, List.setIfInBounds_toArray, List.set_cons_zero, List.set_cons_succ]
        refine wpAnyH_take (i := 8) (oi := ⟨some 39, _, _, _, _, _⟩) (v := ?va8) rfl (by kernel_rfl) (by kernel_rfl) (by kernel_rfl) (fun _ _ _ h => h) (Or.inl ⟨by rfl, ?hya8⟩) hHeld ?resta8
        case hya8 => (intro w hSw; obtain ⟨hx0, hx1, hx2⟩ := hSw; skip; go_simp; try with_reducible rfl)
        try simp only [Act.put, List.setIfInBounds_toArray, List.set_cons_zero, List.set_cons_succ]
        refine wpAnyH_take (i := 10) (oi := ⟨some 41, _, _, _, _, _⟩) (v := ?va10) rfl (by kernel_rfl) (by kernel_rfl) (by kernel_rfl) (fun _ _ _ h => h) (Or.inl ⟨by rfl, ?hya10⟩) hHeld ?resta10
        case hya10 => (intro w hSw; obtain ⟨hx0, hx1, hx2⟩ := hSw; skip; go_simp; try with_reducible rfl)
        try simp only [Act.put, List.setIfInBounds_toArray, List.set_cons_zero, List.set_cons_succ]
        refine wpAnyH_take (i := 11) (oi := ⟨some 42, _, _, _, _, _⟩) (v := ?va11) rfl (by kernel_rfl) (by kernel_rfl) (by kernel_rfl) (fun _ _ _ h => h) (Or.inl ⟨by rfl, ?hya11⟩) hHeld ?resta11
        case hya11 => (intro w hSw; obtain ⟨hx0, hx1, hx2⟩ := hSw; skip; go_simp; try with_reducible rfl)
        try simp only [Act.put, List.setIfInBounds_toArray, List.set_cons_zero, List.set_cons_succ]
        refine wpAnyH_take (i := 12) (oi := ⟨some 43, _, _, _, _, _⟩) (v := ?va12) rfl (by kernel_rfl) (by kernel_rfl) (by kernel_rfl) (fun _ _ _ h => h) (Or.inl ⟨by rfl, ?hya12⟩) hHeld ?resta12
        case hya12 => (intro w hSw; obtain ⟨hx0, hx1, hx2⟩ := hSw; skip; go_simp; try with_reducible rfl)
        try simp only [Act.put, List.setIfInBounds_toArray, List.set_cons_zero, List.set_cons_succ]
        refine wpAnyH_all (rs := [2]) (by kernel_rfl) (by simp) ?_
        intro i hi
        rw [List.mem_singleton] at hi
        subst hi
        refine wpOp_step (o := ⟨some 33, _, _, _, _, _⟩) rfl (fun K hK => ?_)
        rw [if_pos (by rfl)]
        go_simp
        (go_at_call 46; refine (num_any _ _ ⟨by omega, by omega⟩ (HG.out.next (HBW.out.trans (hw2.mono hsz)))).mono ?_; rintro e w3 ⟨rfl, hb3⟩; have hHeld3 := ClAt.below hHeld hb3; have hw3 := hw2.trans (hb3.mono hw2.size); dsimp only)
        refine hK _ _ ⟨hHeld3, ?_⟩
        clear hK K
        try simp only [Act.put, List.setIfInBounds_toArray, List.set_cons_zero, List.set_cons_succ]
        refine wpAnyH_all (rs := [5]) (by kernel_rfl) (by simp) ?_
        intro i hi
        rw [List.mem_singleton] at hi
        subst hi
        refine wpOp_step (o := ⟨some 36, _, _, _, _, _⟩) rfl (fun K hK => ?_)
        rw [if_pos (by rfl)]
        go_simp
        (go_at_call 46; refine (num_any _ _ ⟨by omega, by omega⟩ (HG.out.next (HBW.out.trans (hw3.mono hsz)))).mono ?_; rintro e w4 ⟨rfl, hb4⟩; have hHeld4 := ClAt.below hHeld3 hb4; have hw4 := hw3.trans (hb4.mono hw3.size); dsimp only)
        refine hK _ _ ⟨hHeld4, ?_⟩
        clear hK K
        try simp only [Act.put, List.setIfInBounds_toArray, List.set_cons_zero, List.set_cons_succ]
        refine wpAnyH_all (rs := [9]) (by kernel_rfl) (by simp) ?_
        intro i hi
        rw [List.mem_singleton] at hi
        subst hi
        refine wpOp_step (o := ⟨some 40, _, _, _, _, _⟩) rfl (fun K hK => ?_)
        rw [if_pos (by rfl)]
        go_simp
        (go_at_call 46; refine (num_any _ _ ⟨by omega, by omega⟩ (HG.out.next (HBW.out.trans (hw4.mono hsz)))).mono ?_; rintro e w5 ⟨rfl, hb5⟩; have hHeld5 := ClAt.below hHeld4 hb5; have hw5 := hw4.trans (hb5.mono hw4.size); dsimp only)
        refine hK _ _ ⟨hHeld5, ?_⟩
        clear hK K
        try simp only [Act.put, List.setIfInBounds_toArray, List.set_cons_zero, List.set_cons_succ]
        have hbD := (Below.refl w5.heap.size w5).alloc (Nat.le_refl _) (.cells #[S (num k), S (num c.n), S (num c.e), S c.v] 9)
        have hHeld6 : ClAt (w5.alloc (.cells #[S (num k), S (num c.n), S (num c.e), S c.v] 9)) wr.heap.size c := ClAt.below hHeld5 hbD
        have hw6 := hw5.trans (hbD.mono hw5.size)
        have hnew := cells_new_at w5 [S (num k), S (num c.n), S (num c.e), S c.v] 9
        have HNEW := Lib.hid hnew
        clear hnew
        refine wpAnyH_all (rs := [13]) (by kernel_rfl) (by simp) ?_
        intro i hi
        rw [List.mem_singleton] at hi
        subst hi
        refine wpOp_step (o := ⟨some 44, _, _, _, _, _⟩) rfl (fun K hK => ?_)
        rw [if_pos (by rfl)]
        go_simp
        refine hK _ _ ⟨hHeld6, ?_⟩
        clear hK K
        try simp only [Act.put, List.setIfInBounds_toArray, List.set_cons_zero, List.set_cons_succ]
        generalize (w5.alloc (.cells #[S (num k), S (num c.n), S (num c.e), S c.v] 9)) = W6 at hbD hHeld6 hw6 HNEW ⊢
        have hlen8 : (textT h.tab :: clL 0 (h.cl.take k)).length ≤ 33 := by
          have := (clL_bound (h.cl.take k) 0 (fun x hx => HO.out.cl x (List.mem_of_mem_take hx)) (by rw [List.length_take]; have := H8.out; omega)).2
          rw [List.length_take] at this
          simp only [List.length_cons]; have := H8.out; omega
        obtain ⟨v7, W7, hr14, ho7, hg7, _⟩ := run_append_own (P := Tryd.prog) W6 w.heap.size 89 89 9 i0 (.string ⟨#[]⟩) 1 16 strsUnder hi hz0 hz1 hz2 rfl (by decide) _ _ _ (ownsRow_below HROW.out hw6) ⟨w5.heap.size, 0, none⟩ 4 4 [S (num k), S (num c.n), S (num c.e), S c.v] rfl HNEW.out (by simp [Value.oneCell']) (by unfold maxLen; omega) (by omega) (by have := hw6.size; omega)
        have hb7 : Below w.heap.size w W7 := (HBW.out.trans (hw6.mono hsz)).grown hg7 (by have := hw6.size; omega) (fun j hj => own_base HROW.out hj)
        have hcl7 : Hid (h.cl.take (k + 1) = h.cl.take k ++ [c]) := Lib.hid (by rw [List.take_succ_eq_append_getElem hkl, ← HC.out])
        have HO7 := Lib.hid ho7; have HB7 := Lib.hid hb7
        clear ho7 hb7 HNEW
        have hHeld7 : ClAt W7 wr.heap.size c := ClAt.grown hHeld6 HROW.out hg7
        clear hg7
        refine wpAnyH_all (rs := [14]) (by kernel_rfl) (by simp) ?_
        intro i hi
        rw [List.mem_singleton] at hi
        subst hi
        refine wpOp_step (o := ⟨some 45, _, _, _, _, _⟩) rfl (fun K hK => ?_)
        rw [if_pos (by rfl)]
        refine wp_app (.tmp 31) (.tmp 44) 89 rfl rfl rfl hr14 ?_
        refine hK _ _ ⟨hHeld7, ?_⟩
        clear hK K
        try simp only [Act.put, List.setIfInBounds_toArray, List.set_cons_zero, List.set_cons_succ]
        refine wpAnyH_take (i := 15) (oi := ⟨some 3, _, _, _, _, _⟩) (v := ?vz) rfl (by kernel_rfl) (by kernel_rfl) (by kernel_rfl) (fun _ _ _ h => h) (Or.inl ⟨by rfl, ?hyz⟩) hHeld7 ?restz
        case hyz => (intro w hSw; (try dsimp only at hSw); go_simp; try with_reducible rfl)
        try simp only [Act.put, List.setIfInBounds_toArray, List.set_cons_zero, List.set_cons_succ]
        refine wpAnyH_done (by kernel_rfl) ?_ _
        refine NoPanic.normal ?_
        clear hHeld hHeld3 hHeld4 hHeld5 hHeld6 hHeld7 hr14 hixk
        go_wp2_with fail
        refine ⟨⟨k + 1, by omega, by go_num, ?_, HB7.out⟩, by simp [intOf]; omega⟩
        rw [clL_take_succ h.cl k hkl, ← HC.out, if_pos hpos]
        have := HO7.out
        simpa using this
      · have hnp : ¬ (c.n > 0) := by omega
        have hbC := HBW.out.alloc hsz (.cells #[.int .i64 c.n, .int .i64 c.e, S c.v] 121)
        have hrC := HROW.out.alloc (.cells #[.int .i64 c.n, .int .i64 c.e, S c.v] 121)
        have HBC := Lib.hid hbC; have HRC := Lib.hid hrC
        clear hbC hrC
        go_wp2_with fail
        refine ⟨⟨k + 1, by omega, by go_num, ?_, HBC.out⟩, by simp [intOf]; omega⟩
        rw [clL_take_succ h.cl k hkl, ← HC.out, if_neg hpos, List.append_nil]
        exact HRC.out
    · obtain rfl : k = 8 := by omega
      rw [List.take_of_length_le (by rw [H8.out]; exact Nat.le_refl _)] at hrow
      have hst : Strs wr _ (textT h.tab :: clL 0 h.cl) := strs_of_row hrow
      have HSTR := Lib.hid hst
      clear hrow hbw hst
      go_wp2_with (go_at_call 41; refine (pack_any _ (textT h.tab :: clL 0 h.cl) _ HSTR.out (by have := HPL.out; unfold contS at this; omega) (fun s hs => by have := HPS.out s hs; omega) (HG.out.next HBW.out)).mono ?_; rintro e w2 ⟨rfl, hb2⟩)
      go_ret
      exact ⟨rfl, HBW.out.trans (hb2.mono hsz)⟩
set_option maxRecDepth 100000 in
set_option maxHeartbeats 1000000 in
theorem content_on2 (s p : Nat) (v : Value) (h : Sh) (w : World) (a : ShardAt w s p v h) (ho : ShOk h) (hg : Glob w) (hx : h.st = 2) :
    Calls Tryd.prog 33 #[.pointer (some ⟨s, 0, none⟩)] w fun e w' => e = .returned (S (contS h.tab h.cl)) ∧ Below w.heap.size w w' := by
  obtain ⟨i0, hi, hz0, hz1, hz2⟩ := info_parts strInfo
  obtain ⟨hps, hpn, hpl⟩ := contS_parts ho.tab ho.eight ho.cl
  have h8 := ho.eight
  have hlc : (cellsC h.cl).length = 24 := by rw [cellsC_length, h8]
  have hst : ∀ W, w = W → Calls Tryd.prog 31 #[.pointer (some ⟨s, 0, none⟩)] W fun e w' => e = .returned (.int .i64 2) ∧ W = w' := fun W (e : w = W) => by
    have := status_any s p v h W (by rw [← e]; exact a)
    rw [hx] at this; exact this
  have HST := Lib.hid hst
  have HTX := Lib.hid (fun W (hW : Below w.heap.size w W) => ttext_any h.tab p v W (a.below hW).tab ho.tab (hg.next hW))
  have HA := Lib.hid a; have HO := Lib.hid ho; have HG := Lib.hid hg; have HPS := Lib.hid hps; have HPL := Lib.hid hpl; have HPN := Lib.hid hpn; have H8 := Lib.hid h8
  have hpt := a.pt
  have hrg := a.cls
  have hix : ∀ (k : Nat) (hk : k < h.cl.length) (W : World), (Instr.index 122 (.agg (cellsC h.cl).toArray) (.int .i64 (k : Int))).run Tryd.prog W = .ok (.agg #[.int .i64 h.cl[k].n, .int .i64 h.cl[k].e, S h.cl[k].v]) W := fun k hk W => by
    obtain ⟨h0, h1, h2⟩ := cellsC_at h.cl k hk
    exact run_index_cl _ _ 8 _ k (by omega) clsUnder _ Tryd.underlying121 clInfo _ _ _ (by rw [List.getElem?_toArray]; exact h0) (by rw [List.getElem?_toArray]; exact h1) (by rw [List.getElem?_toArray]; exact h2) W
  have HIX := Lib.hid hix
  have hi24 : (Tryd.prog.info? 122).map (·.size) = some (cellsC h.cl).length := by rw [hlc]; exact clsInfo
  have HI24 := Lib.hid hi24; have HRG := Lib.hid hrg
  clear a ho hg hps hpl hpn h8 hrg hix hlc hi24 hst hx
  go_enter Tryd.func33, Tryd.ntmps33
  go_wp2_with (first | (go_at_call 31; refine (HST.out _ rfl).mono ?_; rintro e w' ⟨rfl, rfl⟩) | (go_at_call 61; refine (HTX.out _ (Below.refl _ _)).mono ?_; rintro e w1 ⟨rfl, hb1⟩; have HB1 := Lib.hid hb1; have HR1 := Lib.hid (rangeAt_next HRG.out hb1); have hpt1 := (hb1.cell (p := ⟨s, 1, none⟩) HA.out.lt.1).trans hpt; clear hb1) | (refine wpList_load_mid rfl 122 (.tmp 22) rfl s 2 rfl (cellsC h.cl) _ (rangeAt_next HR1.out ((Below.refl _ w1).alloc (Nat.le_refl _) _)) clsUnder rfl HI24.out ?_))
  have hown := own_fresh w1 [S (textT h.tab)] 9 w.heap.size HB1.out.size (by simp)
  have hbA := HB1.out.alloc HB1.out.size (.cells #[S (textT h.tab)] 9)
  have HOWN := Lib.hid hown; have HBA := Lib.hid hbA
  clear hown hbA hpt hpt1
  go_loopw [3, 24] (fun v i wr => ∃ k : Nat, k ≤ 8 ∧ i = .int .i64 k ∧ wr.ownsRow w.heap.size 9 1 v (textT h.tab :: clL 0 (h.cl.take k)).length ((textT h.tab :: clL 0 (h.cl.take k)).map S) ∧ Below w.heap.size w wr) (fun _ i _ => 8 - (intOf i).toNat)
  case atStart => exact ⟨0, by omega, rfl, HOWN.out, HBA.out⟩
  case round =>
    obtain ⟨k, hk, rfl, hrow, hbw⟩ := hrel
    have HROW := Lib.hid hrow; have HBW := Lib.hid hbw
    have hsz := hbw.size
    by_cases hlt : k < 8
    · have hkl : k < h.cl.length := by have := H8.out; omega
      have hixk := HIX.out k hkl
      obtain ⟨c, hc⟩ : ∃ c, c = h.cl[k] := ⟨_, rfl⟩
      rw [← hc] at hixk
      have HC := Lib.hid hc
      have hcok := HO.out.cl c (by rw [hc]; exact List.getElem_mem hkl)
      have hrng := clOk_range hcok
      obtain ⟨hr1, hr2, hr3, hr4, hr5⟩ := hrng
      unfold Big at hr2
      clear hc hcok hrow hbw
      by_cases hpos : 0 < c.n
      · have hbC := (Below.refl wr.heap.size wr).alloc (Nat.le_refl _) (.cells #[.int .i64 c.n, .int .i64 c.e, S c.v] 121)
        have hcl : ClAt (wr.alloc (.cells #[.int .i64 c.n, .int .i64 c.e, S c.v] 121)) wr.heap.size c := ⟨cell_new wr _ _ 0, cell_new wr _ _ 1, cell_new wr _ _ 2⟩
        have HCL := Lib.hid hcl; have HBC := Lib.hid hbC
        clear hcl hbC
        go_wp2_with fail
        refine wp_region_noPanic ?_
        refine wp_region_held_drew (S := fun w' => ClAt w' wr.heap.size c) (by kernel_rfl) HCL.out (fun hHeld => ?_)
        have hw2 := HBC.out.drew
        refine wpAnyH_take (i := 0) (oi := ⟨some 31, _, _, _, _, _⟩) (v := ?va0) rfl (by kernel_rfl) (by kernel_rfl) (by kernel_rfl) (fun _ _ _ h => h) (Or.inl ⟨by rfl, ?hya0⟩) hHeld ?resta0
        case hya0 => (intro w hSw; obtain ⟨hx0, hx1, hx2⟩ := hSw; skip; go_simp; try with_reducible rfl)
        try simp only [Act.put, List.setIfInBounds_toArray, List.set_cons_zero, List.set_cons_succ]
        refine wpAnyH_take (i := 1) (oi := ⟨some 32, _, _, _, _, _⟩) (v := ?va1) rfl (by kernel_rfl) (by kernel_rfl) (by kernel_rfl) (fun _ _ _ h => h) (Or.inl ⟨by rfl, ?hya1⟩) hHeld ?resta1
        case hya1 => (intro w hSw; obtain ⟨hx0, hx1, hx2⟩ := hSw; skip; go_simp; try with_reducible rfl)
        try simp only [Act.put, List.setIfInBounds_toArray, List.set_cons_zero, List.set_cons_succ]
        refine wpAnyH_take (i := 3) (oi := ⟨some 34, _, _, _, _, _⟩) (v := ?va3) rfl (by kernel_rfl) (by kernel_rfl) (by kernel_rfl) (fun _ _ _ h => h) (Or.inl ⟨by rfl, ?hya3⟩) hHeld ?resta3
        case hya3 => (intro w hSw; obtain ⟨hx0, hx1, hx2⟩ := hSw; skip; go_simp; try with_reducible rfl)
        try simp only [Act.put, List.setIfInBounds_toArray, List.set_cons_zero, List.set_cons_succ]
        refine wpAnyH_take (i := 4) (oi := ⟨some 35, _, _, _, _, _⟩) (v := ?va4) rfl (by kernel_rfl) (by kernel_rfl) (by kernel_rfl) (fun _ _ _ h => h) (Or.inl ⟨by rfl, ?hya4⟩) hHeld ?resta4
        case hya4 => (intro w hSw; obtain ⟨hx0, hx1, hx2⟩ := hSw; skip; go_simp; try with_reducible rfl)
        try simp only [Act.put, List.setIfInBounds_toArray, List.set_cons_zero, List.set_cons_succ]
        refine wpAnyH_take (i := 6) (oi := ⟨some 37, _, _, _, _, _⟩) (v := ?va6) rfl (by kernel_rfl) (by kernel_rfl) (by kernel_rfl) (fun _ _ _ h => h) (Or.inl ⟨by rfl, ?hya6⟩) hHeld ?resta6
        case hya6 => (intro w hSw; obtain ⟨hx0, hx1, hx2⟩ := hSw; skip; go_simp; try with_reducible rfl)
        try simp only [Act.put, List.setIfInBounds_toArray, List.set_cons_zero, List.set_cons_succ]
        refine wpAnyH_take (i := 7) (oi := ⟨some 38, _, _, _, _, _⟩) (v := ?va7) rfl (by kernel_rfl) (by kernel_rfl) (by kernel_rfl) (fun _ _ _ h => h) (Or.inl ⟨by rfl, ?hya7⟩) hHeld ?resta7
        case hya7 => (intro w hSw; obtain ⟨hx0, hx1, hx2⟩ := hSw; skip; go_simp; try with_reducible rfl)
        try simp only [Act.put, List.setIfInBounds_toArray, List.set_cons_zero, List.set_cons_succ]
        refine wpAnyH_take (i := 8) (oi := ⟨some 39, _, _, _, _, _⟩) (v := ?va8) rfl (by kernel_rfl) (by kernel_rfl) (by kernel_rfl) (fun _ _ _ h => h) (Or.inl ⟨by rfl, ?hya8⟩) hHeld ?resta8
        case hya8 => (intro w hSw; obtain ⟨hx0, hx1, hx2⟩ := hSw; skip; go_simp; try with_reducible rfl)
        try simp only [Act.put, List.setIfInBounds_toArray, List.set_cons_zero, List.set_cons_succ]
        refine wpAnyH_take (i := 10) (oi := ⟨some 41, _, _, _, _, _⟩) (v := ?va10) rfl (by kernel_rfl) (by kernel_rfl) (by kernel_rfl) (fun _ _ _ h => h) (Or.inl ⟨by rfl, ?hya10⟩) hHeld ?resta10
        case hya10 => (intro w hSw; obtain ⟨hx0, hx1, hx2⟩ := hSw; skip; go_simp; try with_reducible rfl)
        try simp only [Act.put, List.setIfInBounds_toArray, List.set_cons_zero, List.set_cons_succ]
        refine wpAnyH_take (i := 11) (oi := ⟨some 42, _, _, _, _, _⟩) (v := ?va11) rfl (by kernel_rfl) (by kernel_rfl) (by kernel_rfl) (fun _ _ _ h => h) (Or.inl ⟨by rfl, ?hya11⟩) hHeld ?resta11
        case hya11 => (intro w hSw; obtain ⟨hx0, hx1, hx2⟩ := hSw; skip; go_simp; try with_reducible rfl)
        try simp only [Act.put, List.setIfInBounds_toArray, List.set_cons_zero, List.set_cons_succ]
        refine wpAnyH_take (i := 12) (oi := ⟨some 43, _, _, _, _, _⟩) (v := ?va12) rfl (by kernel_rfl) (by kernel_rfl) (by kernel_rfl) (fun _ _ _ h => h) (Or.inl ⟨by rfl, ?hya12⟩) hHeld ?resta12
        case hya12 => (intro w hSw; obtain ⟨hx0, hx1, hx2⟩ := hSw; skip; go_simp; try with_reducible rfl)
        try simp only [Act.put, List.setIfInBounds_toArray, List.set_cons_zero, List.set_cons_succ]
        refine wpAnyH_all (rs := [2]) (by kernel_rfl) (by simp) ?_
        intro i hi
        rw [List.mem_singleton] at hi
        subst hi
        refine wpOp_step (o := ⟨some 33, _, _, _, _, _⟩) rfl (fun K hK => ?_)
        rw [if_pos (by rfl)]
        go_simp
        (go_at_call 46; refine (num_any _ _ ⟨by omega, by omega⟩ (HG.out.next (HBW.out.trans (hw2.mono hsz)))).mono ?_; rintro e w3 ⟨rfl, hb3⟩; have hHeld3 := ClAt.below hHeld hb3; have hw3 := hw2.trans (hb3.mono hw2.size); dsimp only)
        refine hK _ _ ⟨hHeld3, ?_⟩
        clear hK K
        try simp only [Act.put, List.setIfInBounds_toArray, List.set_cons_zero, List.set_cons_succ]
        refine wpAnyH_all (rs := [5]) (by kernel_rfl) (by simp) ?_
        intro i hi
        rw [List.mem_singleton] at hi
        subst hi
        refine wpOp_step (o := ⟨some 36, _, _, _, _, _⟩) rfl (fun K hK => ?_)
        rw [if_pos (by rfl)]
        go_simp
        (go_at_call 46; refine (num_any _ _ ⟨by omega, by omega⟩ (HG.out.next (HBW.out.trans (hw3.mono hsz)))).mono ?_; rintro e w4 ⟨rfl, hb4⟩; have hHeld4 := ClAt.below hHeld3 hb4; have hw4 := hw3.trans (hb4.mono hw3.size); dsimp only)
        refine hK _ _ ⟨hHeld4, ?_⟩
        clear hK K
        try simp only [Act.put, List.setIfInBounds_toArray, List.set_cons_zero, List.set_cons_succ]
        refine wpAnyH_all (rs := [9]) (by kernel_rfl) (by simp) ?_
        intro i hi
        rw [List.mem_singleton] at hi
        subst hi
        refine wpOp_step (o := ⟨some 40, _, _, _, _, _⟩) rfl (fun K hK => ?_)
        rw [if_pos (by rfl)]
        go_simp
        (go_at_call 46; refine (num_any _ _ ⟨by omega, by omega⟩ (HG.out.next (HBW.out.trans (hw4.mono hsz)))).mono ?_; rintro e w5 ⟨rfl, hb5⟩; have hHeld5 := ClAt.below hHeld4 hb5; have hw5 := hw4.trans (hb5.mono hw4.size); dsimp only)
        refine hK _ _ ⟨hHeld5, ?_⟩
        clear hK K
        try simp only [Act.put, List.setIfInBounds_toArray, List.set_cons_zero, List.set_cons_succ]
        have hbD := (Below.refl w5.heap.size w5).alloc (Nat.le_refl _) (.cells #[S (num k), S (num c.n), S (num c.e), S c.v] 9)
        have hHeld6 : ClAt (w5.alloc (.cells #[S (num k), S (num c.n), S (num c.e), S c.v] 9)) wr.heap.size c := ClAt.below hHeld5 hbD
        have hw6 := hw5.trans (hbD.mono hw5.size)
        have hnew := cells_new_at w5 [S (num k), S (num c.n), S (num c.e), S c.v] 9
        have HNEW := Lib.hid hnew
        clear hnew
        refine wpAnyH_all (rs := [13]) (by kernel_rfl) (by simp) ?_
        intro i hi
        rw [List.mem_singleton] at hi
        subst hi
        refine wpOp_step (o := ⟨some 44, _, _, _, _, _⟩) rfl (fun K hK => ?_)
        rw [if_pos (by rfl)]
        go_simp
        refine hK _ _ ⟨hHeld6, ?_⟩
        clear hK K
        try simp only [Act.put, List.setIfInBounds_toArray, List.set_cons_zero, List.set_cons_succ]
        generalize (w5.alloc (.cells #[S (num k), S (num c.n), S (num c.e), S c.v] 9)) = W6 at hbD hHeld6 hw6 HNEW ⊢
        have hlen8 : (textT h.tab :: clL 0 (h.cl.take k)).length ≤ 33 := by
          have := (clL_bound (h.cl.take k) 0 (fun x hx => HO.out.cl x (List.mem_of_mem_take hx)) (by rw [List.length_take]; have := H8.out; omega)).2
          rw [List.length_take] at this
          simp only [List.length_cons]; have := H8.out; omega
        obtain ⟨v7, W7, hr14, ho7, hg7, _⟩ := run_append_own (P := Tryd.prog) W6 w.heap.size 89 89 9 i0 (.string ⟨#[]⟩) 1 16 strsUnder hi hz0 hz1 hz2 rfl (by decide) _ _ _ (ownsRow_below HROW.out hw6) ⟨w5.heap.size, 0, none⟩ 4 4 [S (num k), S (num c.n), S (num c.e), S c.v] rfl HNEW.out (by simp [Value.oneCell']) (by unfold maxLen; omega) (by omega) (by have := hw6.size; omega)
        have hb7 : Below w.heap.size w W7 := (HBW.out.trans (hw6.mono hsz)).grown hg7 (by have := hw6.size; omega) (fun j hj => own_base HROW.out hj)
        have hcl7 : Hid (h.cl.take (k + 1) = h.cl.take k ++ [c]) := Lib.hid (by rw [List.take_succ_eq_append_getElem hkl, ← HC.out])
        have HO7 := Lib.hid ho7; have HB7 := Lib.hid hb7
        clear ho7 hb7 HNEW
        have hHeld7 : ClAt W7 wr.heap.size c := ClAt.grown hHeld6 HROW.out hg7
        clear hg7
        refine wpAnyH_all (rs := [14]) (by kernel_rfl) (by simp) ?_
        intro i hi
        rw [List.mem_singleton] at hi
        subst hi
        refine wpOp_step (o := ⟨some 45, _, _, _, _, _⟩) rfl (fun K hK => ?_)
        rw [if_pos (by rfl)]
        refine wp_app (.tmp 31) (.tmp 44) 89 rfl rfl rfl hr14 ?_
        refine hK _ _ ⟨hHeld7, ?_⟩
        clear hK K
        try simp only [Act.put, List.setIfInBounds_toArray, List.set_cons_zero, List.set_cons_succ]
        refine wpAnyH_take (i := 15) (oi := ⟨some 3, _, _, _, _, _⟩) (v := ?vz) rfl (by kernel_rfl) (by kernel_rfl) (by kernel_rfl) (fun _ _ _ h => h) (Or.inl ⟨by rfl, ?hyz⟩) hHeld7 ?restz
        case hyz => (intro w hSw; (try dsimp only at hSw); go_simp; try with_reducible rfl)
        try simp only [Act.put, List.setIfInBounds_toArray, List.set_cons_zero, List.set_cons_succ]
        refine wpAnyH_done (by kernel_rfl) ?_ _
        refine NoPanic.normal ?_
        clear hHeld hHeld3 hHeld4 hHeld5 hHeld6 hHeld7 hr14 hixk
        go_wp2_with fail
        refine ⟨⟨k + 1, by omega, by go_num, ?_, HB7.out⟩, by simp [intOf]; omega⟩
        rw [clL_take_succ h.cl k hkl, ← HC.out, if_pos hpos]
        have := HO7.out
        simpa using this
      · have hnp : ¬ (c.n > 0) := by omega
        have hbC := HBW.out.alloc hsz (.cells #[.int .i64 c.n, .int .i64 c.e, S c.v] 121)
        have hrC := HROW.out.alloc (.cells #[.int .i64 c.n, .int .i64 c.e, S c.v] 121)
        have HBC := Lib.hid hbC; have HRC := Lib.hid hrC
        clear hbC hrC
        go_wp2_with fail
        refine ⟨⟨k + 1, by omega, by go_num, ?_, HBC.out⟩, by simp [intOf]; omega⟩
        rw [clL_take_succ h.cl k hkl, ← HC.out, if_neg hpos, List.append_nil]
        exact HRC.out
    · obtain rfl : k = 8 := by omega
      rw [List.take_of_length_le (by rw [H8.out]; exact Nat.le_refl _)] at hrow
      have hst : Strs wr _ (textT h.tab :: clL 0 h.cl) := strs_of_row hrow
      have HSTR := Lib.hid hst
      clear hrow hbw hst
      go_wp2_with (go_at_call 41; refine (pack_any _ (textT h.tab :: clL 0 h.cl) _ HSTR.out (by have := HPL.out; unfold contS at this; omega) (fun s hs => by have := HPS.out s hs; omega) (HG.out.next HBW.out)).mono ?_; rintro e w2 ⟨rfl, hb2⟩)
      go_ret
      exact ⟨rfl, HBW.out.trans (hb2.mono hsz)⟩
theorem content_any (s p : Nat) (v : Value) (h : Sh) (w : World) (a : ShardAt w s p v h) (ho : ShOk h) (hg : Glob w) :
    Calls Tryd.prog 33 #[.pointer (some ⟨s, 0, none⟩)] w fun e w' => e = .returned (S (contentS h)) ∧ Below w.heap.size w w' := by
  unfold contentS
  by_cases h1 : h.st = 1
  · rw [if_pos (.inl h1)]; exact content_on1 s p v h w a ho hg h1
  · by_cases h2 : h.st = 2
    · rw [if_pos (.inr h2)]; exact content_on2 s p v h w a ho hg h2
    · rw [if_neg (by omega)]
      exact (content_off _ h.st w (fun W e => by subst e; exact status_any s p v h w a) h1 h2).mono fun _ _ ⟨he, hw⟩ => ⟨he, by subst hw; exact Below.refl _ _⟩
end Go.Proofs.YtocgnkenlfdffaaDoor
