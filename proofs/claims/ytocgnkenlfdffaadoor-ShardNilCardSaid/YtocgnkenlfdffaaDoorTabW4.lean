/- package table: set, of a new key. -/
import Derived.Test.YtocgnkenlfdffaaDoorTabW3
import Derived.Test.YtocgnkenlfdffaaDoorHeldZ
import Derived.Deep.RegionHeld3
import Derived.Deep.DeepCutAuto
namespace Go.Proofs.YtocgnkenlfdffaaDoor
open Go Go.RowKit Go.Wap
theorem sliced_hm (A : Option Addr) (n c i : Nat) (hi : i ≤ c) (w : World) : (Instr.slice 151 (.slice A n c) none (some (.int .i64 (i : Int))) (some (.int .i64 (i : Int)))).run Tryd.prog w = .ok (sliced A 0 i i 2) w := by
  have h0 : (0 : Int) ≤ (i : Int) := by omega
  have h1 : (i : Int) ≤ (c : Int) := by omega
  simp [Instr.slice, run_underlying rowsUnder, Instr.sliceBounds, run_sliceBound, sliced, h0, h1]
theorem sliced_l (A : Option Addr) (n c i : Nat) (hi : i ≤ n) (w : World) : (Instr.slice 151 (.slice A n c) (some (.int .i64 (i : Int))) none none).run Tryd.prog w = .ok (sliced A i n c 2) w := by
  have h0 : (0 : Int) ≤ (i : Int) := by omega
  have h1 : (i : Int) ≤ (n : Int) := by omega
  simp [Instr.slice, run_underlying rowsUnder, Instr.sliceBounds, run_sliceBound, sliced, h0, h1]
theorem Src.below {P : Program} {size : Nat} {tx e' : TypeId} {w' : World} {A : Option Addr} {n c : Nat} {news : List Value} (hk : P.underlying tx = some (.slice e')) (h : (A = none ∧ n = 0 ∧ c = 0 ∧ news = []) ∨ ∃ a, A = some a ∧ ∀ j u, news[j]? = some u → w'.cell? (a.add j) = some u) (hl : news.length = n * size) (h1 : ∀ u ∈ news, u.oneCell' = true) : Src P size tx (.slice A n c) n news w' := by
  rcases h with ⟨rfl, rfl, rfl, rfl⟩ | ⟨a, rfl, h⟩
  · exact Src.ofNil w' hk 0
  · exact Src.ofSlice w' hk a n c news hl h h1
set_option maxRecDepth 100000 in
set_option maxHeartbeats 1000000 in
theorem set_new (t : Tab) (k x : Bytes) (p : Nat) (v : Value) (w : World) (h : TableAt w p v t) (ht : TabOk t) (hk : lookT t k = none) (h16 : t.length ≠ 16) :
    Calls Tryd.prog 80 #[.pointer (some ⟨p, 0, none⟩), S k, S x] w fun e w' => e = .returned (.int .i64 0) ∧ ∃ v', Moved w w' p v v' (setT t k x) := by
  obtain ⟨A, c, g, rfl, hc1, hc2, hnil, hsome, hr, hA⟩ := h.slice
  have hp : w.cell? ⟨p, 0, none⟩ = some (.slice A t.length c) := h.row.cell 0
  have hst : (lookT t k).isSome = false := by rw [hk]; rfl
  have hfew := ht.few
  have h16 : ¬ (t.length : Int) = 16 := by omega
  have hi := ahead_le k t
  have HH := Lib.hid h; have HT := Lib.hid ht; have HR := Lib.hid hr; have HS := Lib.hid hsome; have HA := Lib.hid hA; have HN := Lib.hid hnil; have HK := Lib.hid hk
  clear h ht hr hA hsome hnil hk
  go_enter Tryd.func80, Tryd.ntmps80
  go_upto_region 7 with (go_at_call 79; refine (find_any t k _ c g p w hp HS.out HT.out HR.out).mono ?_; rintro e w1 ⟨rfl, hb⟩; have hp1 := (hb.cell (p := ⟨p, 0, none⟩) HH.out.lt).trans hp)
  have h1 := Lib.hid (HH.out.below hb)
  have hr1 := Lib.hid (HR.out.below hb)
  have HSet := Lib.hid (setT_none (v := x) HK.out)
  clear hp HR HT HS HK
  obtain ⟨i, hig⟩ : ∃ i, i = aheadT k t := ⟨_, rfl⟩
  have HSe := Lib.hid (show setT t k x = t.take i ++ (k, x) :: t.drop i by rw [hig]; exact HSet.out)
  rw [← hig] at hi ⊢
  clear hig HSet
  have hs1 := fun w => sliced_hm A t.length c i (by omega) w
  have hs2 := fun w => sliced_l A t.length c i hi w
  obtain ⟨A1, hA1⟩ : ∃ A1, sliced A 0 i i 2 = .slice A1 i i ∧ (A1 = none → i = 0) ∧ (∀ a, A1 = some a → a = ⟨g, 0, none⟩) := by
    refine ⟨if i = 0 then A else A.map (·.add (0 * 2)), by unfold sliced; simp, ?_, ?_⟩
    · intro hh
      rcases HA.out with hn | ⟨hn, _⟩
      · have := HN.out hn; omega
      · rw [hn] at hh; split at hh <;> simp at hh
    · intro a ha
      rcases HA.out with hn | ⟨hn, _⟩
      · rw [hn] at ha; split at ha <;> simp at ha
      · rw [hn] at ha
        split at ha
        · exact (Option.some.inj ha).symm
        · simp only [Option.map_some, Option.some.injEq] at ha
          rw [← ha]; unfold Addr.add; split <;> simp_all
  obtain ⟨hA1, hA2, hA3⟩ := hA1
  simp only [hA1] at hs1
  have HA2 := Lib.hid hA2; have HA3 := Lib.hid hA3
  have hsrc : Hid (∀ W, Below w1.heap.size w1 W → Src Tryd.prog 2 151 (sliced A i t.length c 2) (t.length - i) (cellsT (t.drop i)) W) := Lib.hid (fun W hW => src_rest rowsUnder hi hc1 HN.out (HA.out.imp id And.left) (hr1.out.below hW))
  clear hA1 hA2 hA3
  generalize hV : sliced A i t.length c 2 = V2 at hs2 hsrc
  clear hV
  obtain ⟨n, hn⟩ : ∃ n, t.length = n := ⟨_, rfl⟩
  have HL := Lib.hid hn
  rw [hn] at hc1 hfew h16 hi hp1 hs1 hs2 hsrc ⊢
  clear hn
  refine wp_region_noPanic ?_
  refine wp_region_z (S := fun w' => w'.cell? ⟨p, 0, none⟩ = some (.slice A n c)) 22 (by kernel_rfl) hp1 (fun hHeld => ?_)
  refine wpAnyZ_take (i := 0) (oi := ⟨some 30, _, _, _, _, _⟩) (v := ?va0) rfl (by kernel_rfl) (by decide) (by kernel_rfl) (by kernel_rfl) (by kernel_rfl) (fun _ _ _ h => h) (Or.inl ⟨by rfl, ?hya0⟩) hHeld ?resta0
  case hya0 => (intro w hSw; (try dsimp only at hSw); go_simp; try with_reducible rfl)
  try simp only [Act.put, List.setIfInBounds_toArray, List.set_cons_zero, List.set_cons_succ]
  refine wpAnyZ_take (i := 1) (oi := ⟨some 31, _, _, _, _, _⟩) (v := ?va1) rfl (by kernel_rfl) (by decide) (by kernel_rfl) (by kernel_rfl) (by kernel_rfl) (fun _ _ _ h => h) (Or.inl ⟨by rfl, ?hya1⟩) hHeld ?resta1
  case hya1 => (intro w hSw; (try dsimp only at hSw); go_simp; try with_reducible rfl)
  try simp only [Act.put, List.setIfInBounds_toArray, List.set_cons_zero, List.set_cons_succ]
  refine wpAnyZ_take (i := 2) (oi := ⟨some 32, _, _, _, _, _⟩) (v := ?va2) rfl (by kernel_rfl) (by decide) (by kernel_rfl) (by kernel_rfl) (by kernel_rfl) (fun _ _ _ h => h) (Or.inl ⟨by rfl, ?hya2⟩) hHeld ?resta2
  case hya2 => (intro w hSw; (try dsimp only at hSw); go_simp; try with_reducible rfl)
  try simp only [Act.put, List.setIfInBounds_toArray, List.set_cons_zero, List.set_cons_succ]
  refine wpAnyZ_take (i := 3) (oi := ⟨some 33, _, _, _, _, _⟩) (v := ?va3) rfl (by kernel_rfl) (by decide) (by kernel_rfl) (by kernel_rfl) (by kernel_rfl) (fun _ _ _ h => h) (Or.inl ⟨by rfl, ?hya3⟩) hHeld ?resta3
  case hya3 => (intro w hSw; (try dsimp only at hSw); go_simp; try with_reducible rfl)
  try simp only [Act.put, List.setIfInBounds_toArray, List.set_cons_zero, List.set_cons_succ]
  refine wpAnyZ_take (i := 4) (oi := ⟨some 34, _, _, _, _, _⟩) (v := ?va4) rfl (by kernel_rfl) (by decide) (by kernel_rfl) (by kernel_rfl) (by kernel_rfl) (fun _ _ _ h => h) (Or.inl ⟨by rfl, ?hya4⟩) hHeld ?resta4
  case hya4 => (intro w hSw; (try dsimp only at hSw); go_simp; try with_reducible rfl)
  try simp only [Act.put, List.setIfInBounds_toArray, List.set_cons_zero, List.set_cons_succ]
  refine wpAnyZ_take (i := 5) (oi := ⟨some 35, _, _, _, _, _⟩) (v := ?va5) rfl (by kernel_rfl) (by decide) (by kernel_rfl) (by kernel_rfl) (by kernel_rfl) (fun _ _ _ h => h) (Or.inl ⟨by rfl, ?hya5⟩) hHeld ?resta5
  case hya5 => (intro w hSw; (try dsimp only at hSw); go_simp; try with_reducible rfl)
  try simp only [Act.put, List.setIfInBounds_toArray, List.set_cons_zero, List.set_cons_succ]
  refine wpAnyZ_take (i := 6) (oi := ⟨some 36, _, _, _, _, _⟩) (v := ?va6) rfl (by kernel_rfl) (by decide) (by kernel_rfl) (by kernel_rfl) (by kernel_rfl) (fun _ _ _ h => h) (Or.inl ⟨by rfl, ?hya6⟩) hHeld ?resta6
  case hya6 => (intro w hSw; (try dsimp only at hSw); go_simp; try with_reducible rfl)
  try simp only [Act.put, List.setIfInBounds_toArray, List.set_cons_zero, List.set_cons_succ]
  refine wpAnyZ_take (i := 7) (oi := ⟨some 37, _, _, _, _, _⟩) (v := ?va7) rfl (by kernel_rfl) (by decide) (by kernel_rfl) (by kernel_rfl) (by kernel_rfl) (fun _ _ _ h => h) (Or.inl ⟨by rfl, ?hya7⟩) hHeld ?resta7
  case hya7 => (intro w hSw; (try dsimp only at hSw); go_simp; try with_reducible rfl)
  try simp only [Act.put, List.setIfInBounds_toArray, List.set_cons_zero, List.set_cons_succ]
  refine wpAnyZ_take (i := 8) (oi := ⟨some 38, _, _, _, _, _⟩) (v := ?va8) rfl (by kernel_rfl) (by decide) (by kernel_rfl) (by kernel_rfl) (by kernel_rfl) (fun _ _ _ h => h) (Or.inl ⟨by rfl, ?hya8⟩) hHeld ?resta8
  case hya8 => (intro w hSw; (try dsimp only at hSw); go_simp; try with_reducible rfl)
  try simp only [Act.put, List.setIfInBounds_toArray, List.set_cons_zero, List.set_cons_succ]
  refine wpAnyZ_take (i := 9) (oi := ⟨some 39, _, _, _, _, _⟩) (v := ?va9) rfl (by kernel_rfl) (by decide) (by kernel_rfl) (by kernel_rfl) (by kernel_rfl) (fun _ _ _ h => h) (Or.inl ⟨by rfl, ?hya9⟩) hHeld ?resta9
  case hya9 => (intro w hSw; (try dsimp only at hSw); go_simp; try with_reducible rfl)
  try simp only [Act.put, List.setIfInBounds_toArray, List.set_cons_zero, List.set_cons_succ]
  refine wpAnyZ_take (i := 10) (oi := ⟨some 40, _, _, _, _, _⟩) (v := ?va10) rfl (by kernel_rfl) (by decide) (by kernel_rfl) (by kernel_rfl) (by kernel_rfl) (fun _ _ _ h => h) (Or.inl ⟨by rfl, ?hya10⟩) hHeld ?resta10
  case hya10 => (intro w hSw; (try dsimp only at hSw); go_simp; try with_reducible rfl)
  try simp only [Act.put, List.setIfInBounds_toArray, List.set_cons_zero, List.set_cons_succ]
  refine wpAnyZ_take (i := 12) (oi := ⟨some 42, _, _, _, _, _⟩) (v := ?va12) rfl (by kernel_rfl) (by decide) (by kernel_rfl) (by kernel_rfl) (by kernel_rfl) (fun _ _ _ h => h) (Or.inl ⟨by rfl, ?hya12⟩) hHeld ?resta12
  case hya12 => (intro w hSw; (try dsimp only at hSw); go_simp; try with_reducible rfl)
  try simp only [Act.put, List.setIfInBounds_toArray, List.set_cons_zero, List.set_cons_succ]
  refine wpAnyZ_take (i := 13) (oi := ⟨some 43, _, _, _, _, _⟩) (v := ?va13) rfl (by kernel_rfl) (by decide) (by kernel_rfl) (by kernel_rfl) (by kernel_rfl) (fun _ _ _ h => h) (Or.inl ⟨by rfl, ?hya13⟩) hHeld ?resta13
  case hya13 => (intro w hSw; (try dsimp only at hSw); go_simp; try with_reducible rfl)
  try simp only [Act.put, List.setIfInBounds_toArray, List.set_cons_zero, List.set_cons_succ]
  refine wpAnyZ_take (i := 14) (oi := ⟨some 44, _, _, _, _, _⟩) (v := ?va14) rfl (by kernel_rfl) (by decide) (by kernel_rfl) (by kernel_rfl) (by kernel_rfl) (fun _ _ _ h => h) (Or.inl ⟨by rfl, ?hya14⟩) hHeld ?resta14
  case hya14 => (intro w hSw; (try dsimp only at hSw); go_simp; try with_reducible rfl)
  try simp only [Act.put, List.setIfInBounds_toArray, List.set_cons_zero, List.set_cons_succ]
  refine wpAnyZ_take (i := 15) (oi := ⟨some 45, _, _, _, _, _⟩) (v := ?va15) rfl (by kernel_rfl) (by decide) (by kernel_rfl) (by kernel_rfl) (by kernel_rfl) (fun _ _ _ h => h) (Or.inl ⟨by rfl, ?hya15⟩) hHeld ?resta15
  case hya15 => (intro w hSw; (try dsimp only at hSw); go_simp; try with_reducible rfl)
  try simp only [Act.put, List.setIfInBounds_toArray, List.set_cons_zero, List.set_cons_succ]
  refine wpAnyZ_take (i := 16) (oi := ⟨some 46, _, _, _, _, _⟩) (v := ?va16) rfl (by kernel_rfl) (by decide) (by kernel_rfl) (by kernel_rfl) (by kernel_rfl) (fun _ _ _ h => h) (Or.inl ⟨by rfl, ?hya16⟩) hHeld ?resta16
  case hya16 => (intro w hSw; (try dsimp only at hSw); go_simp; try with_reducible rfl)
  try simp only [Act.put, List.setIfInBounds_toArray, List.set_cons_zero, List.set_cons_succ]
  refine wpAnyZ_take (i := 17) (oi := ⟨some 47, _, _, _, _, _⟩) (v := ?va17) rfl (by kernel_rfl) (by decide) (by kernel_rfl) (by kernel_rfl) (by kernel_rfl) (fun _ _ _ h => h) (Or.inl ⟨by rfl, ?hya17⟩) hHeld ?resta17
  case hya17 => (intro w hSw; (try dsimp only at hSw); go_simp; try with_reducible rfl)
  try simp only [Act.put, List.setIfInBounds_toArray, List.set_cons_zero, List.set_cons_succ]
  have hbA := ((Below.refl w1.heap.size w1).alloc (Nat.le_refl _) (.cells #[S k, S x] 163)).drew
  have hN : RowV (w1.alloc (.cells #[S k, S x] 163)).drew w1.heap.size 163 #[S k, S x] := RowV.new w1 _ _
  have hp2 := (hbA.cell (p := ⟨p, 0, none⟩) h1.out.lt).trans hp1
  refine wpAnyZ_all (rs := [11]) (by kernel_rfl) (by simp) ?_
  intro i hi
  rw [List.mem_singleton] at hi
  subst hi
  refine wpOp_step (o := ⟨some 41, _, _, _, _, _⟩) rfl (fun K hK => ?_)
  rw [if_pos (by rfl)]
  go_simp
  refine hK _ _ ⟨fun _ => hp2, ?_⟩
  clear hK K
  try simp only [Act.put, List.setIfInBounds_toArray, List.set_cons_zero, List.set_cons_succ]
  generalize (w1.alloc (.cells #[S k, S x] 163)).drew = W2 at hbA hN hp2 ⊢
  have hg2 : ¬ g = p ∨ A = none := by rcases HA.out with h | ⟨_, h⟩; exact .inr h; exact .inl h
  obtain ⟨i0, hq, hz0, hz1, hz2⟩ := info_parts rowInfo
  have hin : ∃ D c2 W3, (Builtin.append_ #[151, 151] 151 #[.slice (some ⟨w1.heap.size, 0, none⟩) 1 1, V2]).run Tryd.prog W2 = .ok (.slice (some ⟨D, 0, none⟩) (1 + (n - i)) c2) W3 ∧ Below W2.heap.size W2 W3 ∧
      (∀ j u, (S k :: S x :: cellsT (t.drop i))[j]? = some u → W3.cell? ⟨D, j, none⟩ = some u) := by
    have hsv := hsrc.out W2 hbA
    by_cases hni : n - i = 0
    · rw [hni] at hsv ⊢
      have hnil2 : cellsT (t.drop i) = [] := List.eq_nil_of_length_eq_zero (by simpa using hsv.newsLen)
      rw [hnil2] at hsv ⊢
      refine ⟨w1.heap.size, 1, W2, run_append_nothing W2 _ _ _ _ i0 rowsUnder hq _ 1 1 (Nat.le_refl _) _ (by rw [hz1]; exact hsv), Below.refl _ _, fun j u hu => ?_⟩
      rw [hN.cell]
      simpa using hu
    · obtain ⟨cap, W3, hr, ho, hb3, _⟩ := run_app_grow W2 151 151 163 i0 _ 2 32 0 rowsUnder hq hz0 hz1 hz2 rfl (some ⟨w1.heap.size, 0, none⟩) 1 1 [S k, S x] rfl (fun h => by cases h) (fun a ha j u hu => by
        cases ha
        have : (⟨w1.heap.size, 0, none⟩ : Addr).add j = ⟨w1.heap.size, j, none⟩ := by unfold Addr.add; split <;> simp_all
        rw [this, hN.cell]; simpa using hu) V2 (n - i) _ hsv (by omega) (by omega) (by omega) (Nat.zero_le _)
      refine ⟨_, cap, W3, hr, hb3, fun j u hu => ?_⟩
      have := ho.cells rfl j u (by simpa using hu)
      rw [← this]; congr 1; unfold Addr.add; split <;> simp_all
  obtain ⟨D, c2, W3, hr18, hb3, hD⟩ := hin
  have hp3 := (hb3.cell (p := ⟨p, 0, none⟩) (World.block_lt_of_cell? W2 ⟨p, 0, none⟩ hp2)).trans hp2
  have hbB := hbA.trans (hb3.mono hbA.size)
  have hl2 : (cellsT (t.drop i)).length = (n - i) * 2 := (hsrc.out W2 hbA).newsLen
  have hsrc3 : Src Tryd.prog 2 151 (.slice (some ⟨D, 0, none⟩) (1 + (n - i)) c2) (1 + (n - i)) (S k :: S x :: cellsT (t.drop i)) W3 :=
    Src.ofSlice W3 rowsUnder _ _ _ _ (by simp [hl2]; omega) (fun j u hu => by
      have : (⟨D, 0, none⟩ : Addr).add j = ⟨D, j, none⟩ := by unfold Addr.add; split <;> simp_all
      rw [this]; exact hD j u hu) (fun u hu => by
      rcases List.mem_cons.1 hu with rfl | hu
      · rfl
      · rcases List.mem_cons.1 hu with rfl | hu
        · rfl
        · exact cellsT_one _ u hu)
  have hr3 := hr1.out.below hbB
  have hlt := HL.out
  obtain ⟨cap4, W4, hr19, ho4, hb4, hlt4⟩ := run_app_grow W3 151 151 163 i0 _ 2 32 0 rowsUnder hq hz0 hz1 hz2 rfl A1 i i (cellsT (t.take i)) (by have := HL.out; rw [cellsT_length, List.length_take]; omega) (fun h => HA2.out h) (fun a ha j u hu => by
    have := HA3.out a ha
    subst this
    have hadd : (⟨g, 0, none⟩ : Addr).add j = ⟨g, j, none⟩ := by unfold Addr.add; split <;> simp_all
    rw [hadd]
    rw [cellsT_take] at hu
    obtain ⟨hlt, _⟩ := List.getElem?_eq_some_iff.1 hu
    rw [List.length_take, cellsT_length] at hlt
    rw [List.getElem?_take_of_lt (by omega)] at hu
    obtain ⟨q, hq⟩ : ∃ q, j = q * 2 ∨ j = q * 2 + 1 := ⟨j / 2, by omega⟩
    rcases hq with rfl | rfl
    · rw [(cellsT_at t q (by omega)).1] at hu; rw [(hr3 q (by omega)).1, hu]
    · rw [(cellsT_at t q (by omega)).2] at hu; rw [(hr3 q (by omega)).2, hu]) _ (1 + (n - i)) _ hsrc3 (by omega) (by omega) (by omega) (Nat.zero_le _)
  have hp4 := (hb4.cell (p := ⟨p, 0, none⟩) (World.block_lt_of_cell? W3 ⟨p, 0, none⟩ hp3)).trans hp3
  have hbC := hbB.trans (hb4.mono hbB.size)
  have h4 := h1.out.below hbC
  have hf4 := h4.row.free 0
  clear hsrc3 hr3 hl2 hsrc hlt
  have HO4 := Lib.hid ho4
  clear ho4 hs1 hs2 hD
  refine wpAnyZ_all (rs := [18]) (by kernel_rfl) (by simp) ?_
  intro i hi
  rw [List.mem_singleton] at hi
  subst hi
  refine wpOp_step (o := ⟨some 48, _, _, _, _, _⟩) rfl (fun K hK => ?_)
  rw [if_pos (by rfl)]
  refine wp_app (.tmp 41) (.tmp 47) 151 rfl rfl rfl hr18 ?_
  refine hK _ _ ⟨fun _ => hp3, ?_⟩
  clear hK K
  try simp only [Act.put, List.setIfInBounds_toArray, List.set_cons_zero, List.set_cons_succ]
  refine wpAnyZ_all (rs := [19]) (by kernel_rfl) (by simp) ?_
  intro i hi
  rw [List.mem_singleton] at hi
  subst hi
  refine wpOp_step (o := ⟨some 49, _, _, _, _, _⟩) rfl (fun K hK => ?_)
  rw [if_pos (by rfl)]
  refine wp_app (.tmp 37) (.tmp 48) 151 rfl rfl rfl hr19 ?_
  refine hK _ _ ⟨fun _ => hp4, ?_⟩
  clear hK K
  try simp only [Act.put, List.setIfInBounds_toArray, List.set_cons_zero, List.set_cons_succ]
  refine wpAnyZ_all (rs := [20]) (by kernel_rfl) (by simp) ?_
  intro i hi
  rw [List.mem_singleton] at hi
  subst hi
  refine wpOp_step (o := ⟨some 50, _, _, _, _, _⟩) rfl (fun K hK => ?_)
  rw [if_pos (by rfl)]
  go_simp
  refine hK _ _ ⟨fun _ => hp4, ?_⟩
  clear hK K
  try simp only [Act.put, List.setIfInBounds_toArray, List.set_cons_zero, List.set_cons_succ]
  refine wpAnyZ_all (rs := [21]) (by kernel_rfl) (by simp) ?_
  intro i hi
  rw [List.mem_singleton] at hi
  subst hi
  refine wpOp_step (o := ⟨some 51, _, _, _, _, _⟩) rfl (fun K hK => ?_)
  rw [if_pos (by rfl)]
  go_simp
  refine hK _ _ ⟨fun _ => hp4, ?_⟩
  clear hK K
  try simp only [Act.put, List.setIfInBounds_toArray, List.set_cons_zero, List.set_cons_succ]
  refine wpAnyZ_all (rs := [22]) (by kernel_rfl) (by simp) ?_
  intro i hi
  rw [List.mem_singleton] at hi
  subst hi
  refine wpOp_step (o := ⟨none, _, _, _, _, _⟩) rfl (fun K hK => ?_)
  rw [if_pos (by rfl)]
  go_simp
  refine hK _ _ ⟨fun h => absurd rfl h, ?_⟩
  clear hK K
  try simp only [Act.put, List.setIfInBounds_toArray, List.set_cons_zero, List.set_cons_succ]
  refine wpAnyZ_done (by kernel_rfl) ?_ _
  refine NoPanic.normal ?_
  clear hr18 hr19 hp1 hp2 hp3 hHeld
  go_wp2_with fail
  go_ret
  have hlen : (setT t k x).length = i + (1 + (n - i)) := by have := HL.out; rw [HSe.out]; simp; omega
  refine ⟨rfl, _, Moved.ofBelow hb ⟨⟨h4.row.setCell 0 _, ?_, ?_⟩, ?_, ?_⟩⟩
  · have ho := HO4.out
    have e : cellsT (t.take i) ++ S k :: S x :: cellsT (t.drop i) = cellsT (setT t k x) := by rw [HSe.out, cellsT_append]; simp [cellsT, flatT]
    rw [e] at ho
    have ho2 : W4.ownsRow 0 163 2 (.slice (some ⟨W3.heap.size, 0, none⟩) (i + (1 + (n - i))) cap4) (setT t k x).length (cellsT (setT t k x)) := by rw [hlen]; exact ho
    exact (OwnT.ofOwns ho2).setOther (by simp [Value.ownBlock]; have := World.block_lt_of_cell? W4 ⟨p, 0, none⟩ hp4; have := h1.out.lt; have := hbB.size; omega) _
  · simp [Value.ownBlock]; have := h1.out.lt; have := hbB.size; omega
  · exact ((Only.refl _ w1).addBelow hbC (Nat.le_refl _)).setCell (.inl (.inl rfl)) _
  · intro g' hg'
    simp only [Value.ownBlock, Option.some.injEq] at hg'
    right; have := hbB.size; omega
end Go.Proofs.YtocgnkenlfdffaaDoor
