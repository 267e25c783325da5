/- the law SealHolds: its walk, where all goes well. -/
import Derived.Test.YtocgnkenlfdffaaDoorHolds
import Derived.Deep.MidRow
namespace Go.Proofs.YtocgnkenlfdffaaDoor
open Go Go.RowKit Go.Wap
theorem decode_ok (g n : Int) (X T : Bytes) (w : World) (h : IsP g n) (hX : X.length ≤ 20000) (hT : T.length = 16) (hg : Glob w) :
    Calls Tryd.prog 15 #[S (pack [nameF g n, X, T])] w fun e w' => e = .returned (.tuple #[sV g n X T, .int .i64 0]) ∧ Below w.heap.size w w' := by
  have ig : InI g := by unfold IsP at h; unfold InI; omega
  have iN : InI n := by unfold IsP at h; unfold InI; omega
  have hnl := name_len g n ig iN
  have hl := pack3_len (nameF g n) X T (by omega) (by omega) (by omega)
  have := decode_any (pack [nameF g n, X, T]) w (by omega) hg
  rw [decode_pack g n X T h (by omega) hT] at this
  exact this
theorem eq_signed (g n : Int) (X T : Bytes) (w : World) : (Op.equalIn 10000 25 (.agg #[.int .i64 g, .int .i64 n, S X, S T]) (.agg #[.int .i64 g, .int .i64 n, S X, S T])).run Tryd.prog w = .ok true w := by
  rw [show (10000 : Nat) = 9998 + 1 + 1 from rfl, run_equalIn_agg w (9998 + 1) 25 _ _ (by kernel_rfl) (by kernel_rfl)]
  simp only [Program.fieldsOf, Tryd.underlying25]
  go_simp
theorem range4 {w : World} {b : Nat} {x y z u : Value} (h0 : w.cell? ⟨b, 0, none⟩ = some x) (h1 : w.cell? ⟨b, 1, none⟩ = some y) (h2 : w.cell? ⟨b, 2, none⟩ = some z) (h3 : w.cell? ⟨b, 3, none⟩ = some u) : w.rangeAt b 0 [x, y, z, u] := by
  intro j v hv
  rw [Nat.zero_add]
  match j, hv with
  | 0, hv => simp at hv; rw [h0, hv]
  | 1, hv => simp at hv; rw [h1, hv]
  | 2, hv => simp at hv; rw [h2, hv]
  | 3, hv => simp at hv; rw [h3, hv]
  | j + 4, hv => simp at hv
theorem rangeAt_below {w w' : World} {b o : Nat} {cs : List Value} (h : w.rangeAt b o cs) (hb : Below w.heap.size w w') : w'.rangeAt b o cs := fun j v hv =>
  (hb.cell (p := ⟨b, o + j, none⟩) (World.block_lt_of_cell? w ⟨b, o + j, none⟩ (h j v hv))).trans (h j v hv)
/-- what the last region leans on -/
structure Held3 (w : World) (r b9 b13 b15 : Nat) (K X T tag : Bytes) (g n : Int) (v : World) : Prop where
  a : v.rangeAt b9 0 [.int .i64 g, .int .i64 n, S X, S T]
  b : v.rangeAt b13 0 [.int .i64 g, .int .i64 n, S X, S T]
  c : v.rangeAt b15 0 [.int .i64 g, .int .i64 n, S X, S tag]
  r : IsRing v r K
  g : GlobB v
  l : Below w.heap.size w v
theorem Held3.next {w v v' : World} {r b9 b13 b15 : Nat} {K X T tag : Bytes} {g n : Int} (h : Held3 w r b9 b13 b15 K X T tag g n v) (hb : Below v.heap.size v v') : Held3 w r b9 b13 b15 K X T tag g n v' :=
  ⟨rangeAt_below h.a hb, rangeAt_below h.b hb, rangeAt_below h.c hb, h.r.below hb, h.g.next hb, h.l.trans (hb.mono h.l.size)⟩
theorem Held3.three {w v : World} {r b9 b13 b15 : Nat} {K X T tag : Bytes} {g n : Int} (h : Held3 w r b9 b13 b15 K X T tag g n v) : v.cell? ⟨b9, 3, none⟩ = some (S T) := by
  have := h.a 3 (S T) rfl; rwa [Nat.zero_add] at this
theorem IsRing.drew {w : World} {r : Nat} {K : Bytes} (h : IsRing w r K) : IsRing w.drew r K := h
set_option maxRecDepth 100000 in
set_option maxHeartbeats 4000000 in
theorem holds_well (K tag X T0 : Bytes) (g n : Int) (w : World) (hK : K.length ≤ 32) (hX : X.length ≤ 20000) (hp : IsP g n) (hg : GlobB w) : Calls Tryd.prog 3 #[S K, S tag, sV g n X T0] w fun e w' => e = .returned (.bool true) ∧ Below w.heap.size w w' := by
  have hb0 := (Below.refl w.heap.size w).alloc (Nat.le_refl _) (.cells #[.int .i64 g, .int .i64 n, S X, S T0] 25)
  have q0 := RowV.new w 25 #[.int .i64 g, .int .i64 n, S X, S T0]
  have hbA := (Below.refl _ (w.alloc (.cells #[.int .i64 g, .int .i64 n, S X, S T0] 25))).alloc (Nat.le_refl _) (.cells #[S K] 85)
  have q1 := q0.alloc (.cells #[S K] 85)
  have hR0 : IsRing ((w.alloc (.cells #[.int .i64 g, .int .i64 n, S X, S T0] 25)).alloc (.cells #[S K] 85)) (w.heap.size + 1) K := by
    have := cell_new (w.alloc (.cells #[.int .i64 g, .int .i64 n, S X, S T0] 25)) #[S K] 85 0
    rw [World.size_alloc] at this; exact this
  obtain ⟨c0, c1, c2, c3⟩ := cells4 q1
  have hb2 := hb0.trans (hbA.mono hb0.size)
  have HG := Lib.hid (hg.next hb2); have HQ := Lib.hid q1; have HR := Lib.hid hR0; clear hg q0 hbA q1 hR0
  have hX2 : ¬ ((X.length : Int) > 20000) := by omega
  go_enter Tryd.func3, Tryd.ntmps3
  go_upto_region 11 with (first | (go_at_call 10; refine (ringnew_ok K _ hK).mono ?_; rintro e w' ⟨rfl, rfl⟩) | (go_at_call 12; refine (sign_gen _ K g n X _ hp HR.out hK (by omega) HG.out).mono ?_; rintro e w1 ⟨T, hT, hTe, rfl, hb1⟩; have hb3 := hb2.trans (hb1.mono hb2.size); have HG1 := Lib.hid (HG.out.next hb1); have HR1 := Lib.hid (HR.out.below hb1); have hbB := (Below.refl _ w1).alloc (Nat.le_refl _) (.cells #[.int .i64 g, .int .i64 n, S X, S T] 25); have P1 := Lib.hid (RowV.new w1 25 #[.int .i64 g, .int .i64 n, S X, S T]); have HG2 := Lib.hid (HG1.out.next hbB); have HR2 := Lib.hid (HR1.out.below hbB); have hb4 := hb3.trans (hbB.mono hb3.size); obtain ⟨d0, d1, d2, d3⟩ := cells4 P1.out; clear c0 c1 c2 c3) | (go_at_call 14; refine (encode_gen g n X T _ hp hT (by omega) HG2.out.g).mono ?_; rintro e w3 ⟨rfl, hb5⟩; have HG3 := Lib.hid (HG2.out.next hb5); have HR3 := Lib.hid (HR2.out.below hb5); have hb6 := hb4.trans (hb5.mono hb4.size); have P3 := Lib.hid (P1.out.below hb5 P1.out.lt); clear d0 d1 d2 d3) | (go_at_call 15; refine (decode_ok g n X T _ hp hX hT HG3.out.g).mono ?_; rintro e w4 ⟨rfl, hb7⟩; have HG4 := Lib.hid (HG3.out.next hb7); have HR4 := Lib.hid (HR3.out.below hb7); have hb8 := hb6.trans (hb7.mono hb6.size); have P4 := Lib.hid (P3.out.below hb7 P3.out.lt); obtain ⟨e0, e1, e2, e3⟩ := cells4 (P4.out.alloc (.cells #[.int .i64 g, .int .i64 n, S X, S T] 25))))
  have hbE := ((Below.refl _ w4).alloc (Nat.le_refl _) (.cells #[.int .i64 g, .int .i64 n, S X, S T] 25)).alloc (by simp) (.cells #[.int .i64 g, .int .i64 n, S X, S tag] 25)
  have P5 := P4.out.below hbE P4.out.lt
  have Q5 := (RowV.new w4 25 #[.int .i64 g, .int .i64 n, S X, S T]).alloc (.cells #[.int .i64 g, .int .i64 n, S X, S tag] 25)
  have Z5 := RowV.new (w4.alloc (.cells #[.int .i64 g, .int .i64 n, S X, S T] 25)) 25 #[.int .i64 g, .int .i64 n, S X, S tag]
  rw [World.size_alloc] at Z5
  have HG5 := HG4.out.next hbE
  have HR5 := HR4.out.below hbE
  have hb9 := hb8.trans (hbE.mono hb8.size)
  clear e0 e1 e2 e3 P1 P3 P4 HG HG1 HG2 HG3 HG4 HR HR1 HR2 HR3 HR4 HQ hbB hb1 hb2 hb3 hb4 hb5 hb6 hb7 hb8 hb0
  generalize hW5 : (w4.alloc (.cells #[.int .i64 g, .int .i64 n, S X, S T] 25)).alloc (.cells #[.int .i64 g, .int .i64 n, S X, S tag] 25) = W5 at hbE P5 Q5 Z5 HG5 HR5 hb9 ⊢
  clear hW5 hbE
  obtain ⟨p0, p1, p2, p3⟩ := cells4 P5
  obtain ⟨q0, q1, q2, q3⟩ := cells4 Q5
  obtain ⟨z0, z1, z2, z3⟩ := cells4 Z5
  have hS0 : Held3 w (w.heap.size + 1) w1.heap.size w4.heap.size (w4.heap.size + 1) K X T tag g n W5.drew := (show Held3 w (w.heap.size + 1) w1.heap.size w4.heap.size (w4.heap.size + 1) K X T tag g n W5 from ⟨range4 p0 p1 p2 p3, range4 q0 q1 q2 q3, range4 z0 z1 z2 z3, HR5, HG5, hb9⟩).next ((Below.refl _ W5).drew)
  have heqS := eq_signed g n X T
  have HC1 : ∀ v : World, IsRing v (w.heap.size + 1) K → GlobB v → Calls Tryd.prog 16 #[.pointer (some ⟨w.heap.size + 1, 0, none⟩), sV g n X T] v fun e w' => e = .returned (.int .i64 0) ∧ Below v.heap.size v w' :=
    fun v hr hg => check_gen 0 _ K g n X T v hp hT hr hK (by omega) hg (Lib.hid ⟨fun _ => rfl, fun h => absurd hTe.out h⟩)
  obtain ⟨x, bq, hxq, hbq, HC2⟩ : ∃ (x : Int) (bq : Bool), (x == 0) = bq ∧ (tag == T) = bq ∧ ∀ v : World, IsRing v (w.heap.size + 1) K → GlobB v → Calls Tryd.prog 16 #[.pointer (some ⟨w.heap.size + 1, 0, none⟩), sV g n X tag] v fun e w' => e = .returned (.int .i64 x) ∧ Below v.heap.size v w' := by
    by_cases hq : tag = T
    · exact ⟨0, true, rfl, by simpa using hq, fun v hr hg => check_gen 0 _ K g n X tag v hp (by rw [hq]; exact hT) hr hK (by omega) hg (Lib.hid ⟨fun _ => rfl, fun h => absurd (hq.trans hTe.out) h⟩)⟩
    · by_cases hl : tag.length = 16
      · exact ⟨30, false, rfl, by simpa using hq, fun v hr hg => check_gen 30 _ K g n X tag v hp hl hr hK (by omega) hg (Lib.hid ⟨fun h => absurd (h.trans hTe.out.symm) hq, fun _ => rfl⟩)⟩
      · exact ⟨30, false, rfl, by simpa using hq, fun v hr hg => check_len _ K g n X tag v hp hl hr hK (by omega) hg⟩
  have HH1 := Lib.hid HC1; have HH2 := Lib.hid HC2
  clear HC1 HC2 P5 Q5 Z5 p0 p1 p2 p3 q0 q1 q2 q3 z0 z1 z2 z3 HR5 HG5 hb9 hTe
  have hi4 : (Tryd.prog.info? 25).map (·.size) = some [Value.int .i64 g, .int .i64 n, S X, S T].length := by kernel_rfl
  have hi4t : (Tryd.prog.info? 25).map (·.size) = some [Value.int .i64 g, .int .i64 n, S X, S tag].length := by kernel_rfl
  have HI := Lib.hid hi4; have HIT := Lib.hid hi4t
  clear hi4 hi4t
  refine wp_region_noPanic ?_
  refine wp_region_held_drew (S := (Held3 w (w.heap.size + 1) w1.heap.size w4.heap.size (w4.heap.size + 1) K X T tag g n)) (by kernel_rfl) hS0 (fun hHeld => ?_)
  refine wpAnyH_take (i := 0) (oi := ⟨some 73, _, _, _, _, _⟩) (v := ?va0) rfl (by kernel_rfl) (by kernel_rfl) (by kernel_rfl) (fun _ _ _ h => h) (Or.inl ⟨by rfl, ?hya0⟩) hHeld ?resta0
  case hya0 => (intro w hSw; (try dsimp only at hSw); go_simp; try with_reducible rfl)
  try simp only [Act.put, List.setIfInBounds_toArray, List.set_cons_zero, List.set_cons_succ]
  refine wpAnyH_take (i := 1) (oi := ⟨some 74, _, _, _, _, _⟩) (v := ?va1) rfl (by kernel_rfl) (by kernel_rfl) (by kernel_rfl) (fun _ _ _ h => h) (Or.inl ⟨by rfl, ?hya1⟩) hHeld ?resta1
  case hya1 => (intro w hSw; (try dsimp only at hSw); go_simp; try with_reducible rfl)
  try simp only [Act.put, List.setIfInBounds_toArray, List.set_cons_zero, List.set_cons_succ]
  refine wpAnyH_take (i := 2) (oi := ⟨some 75, _, _, _, _, _⟩) (v := ?va2) rfl (by kernel_rfl) (by kernel_rfl) (by kernel_rfl) (fun _ _ _ h => h) (Or.inl ⟨by rfl, ?hya2⟩) hHeld ?resta2
  case hya2 => (intro w hSw; (try dsimp only at hSw); go_simp; try with_reducible rfl)
  try simp only [Act.put, List.setIfInBounds_toArray, List.set_cons_zero, List.set_cons_succ]
  refine wpAnyH_take (i := 3) (oi := ⟨some 76, _, _, _, _, _⟩) (v := ?va3) rfl (by kernel_rfl) (by kernel_rfl) (by kernel_rfl) (fun _ _ _ h => h) (Or.inl ⟨by rfl, ?hya3⟩) hHeld ?resta3
  case hya3 => (intro w hSw; (try dsimp only at hSw); go_simp; try with_reducible rfl)
  try simp only [Act.put, List.setIfInBounds_toArray, List.set_cons_zero, List.set_cons_succ]
  refine wpAnyH_take (i := 4) (oi := ⟨some 77, _, _, _, _, _⟩) (v := ?va4) rfl (by kernel_rfl) (by kernel_rfl) (by kernel_rfl) (fun _ _ _ h => h) (Or.inl ⟨by rfl, ?hya4⟩) hHeld ?resta4
  case hya4 => (intro w hSw; (try dsimp only at hSw); go_simp; try with_reducible rfl)
  try simp only [Act.put, List.setIfInBounds_toArray, List.set_cons_zero, List.set_cons_succ]
  refine wpAnyH_take (i := 5) (oi := ⟨some 78, _, _, _, _, _⟩) (v := ?va5) rfl (by kernel_rfl) (by kernel_rfl) (by kernel_rfl) (fun _ _ _ h => h) (Or.inl ⟨by rfl, ?hya5⟩) hHeld ?resta5
  case hya5 => (intro w hSw; (try dsimp only at hSw); go_simp; try with_reducible rfl)
  try simp only [Act.put, List.setIfInBounds_toArray, List.set_cons_zero, List.set_cons_succ]
  refine wpAnyH_take (i := 6) (oi := ⟨some 79, _, _, _, _, _⟩) (v := ?va6) rfl (by kernel_rfl) (by kernel_rfl) (by kernel_rfl) (fun _ _ _ h => h) (Or.inl ⟨by rfl, ?hya6⟩) hHeld ?resta6
  case hya6 => (intro w hSw; (try dsimp only at hSw); go_simp; try with_reducible rfl)
  try simp only [Act.put, List.setIfInBounds_toArray, List.set_cons_zero, List.set_cons_succ]
  refine wpAnyH_take (i := 7) (oi := ⟨some 80, _, _, _, _, _⟩) (v := .agg #[.int .i64 g, .int .i64 n, S X, S T]) rfl (by kernel_rfl) (by kernel_rfl) (by kernel_rfl) (fun _ _ _ h => h) ?hya7 hHeld ?resta7
  case hya7 => exact yieldsIf_load_mid (by rfl) 25 _ rfl w1.heap.size 0 rfl [.int .i64 g, .int .i64 n, S X, S T] _ (fun w' h' => h'.a) Tryd.underlying25 rfl HI.out
  try simp only [Act.put, List.setIfInBounds_toArray, List.set_cons_zero, List.set_cons_succ]
  refine wpAnyH_take (i := 8) (oi := ⟨some 81, _, _, _, _, _⟩) (v := .agg #[.int .i64 g, .int .i64 n, S X, S T]) rfl (by kernel_rfl) (by kernel_rfl) (by kernel_rfl) (fun _ _ _ h => h) ?hya8 hHeld ?resta8
  case hya8 => exact yieldsIf_load_mid (by rfl) 25 _ rfl w4.heap.size 0 rfl [.int .i64 g, .int .i64 n, S X, S T] _ (fun w' h' => h'.b) Tryd.underlying25 rfl HI.out
  try simp only [Act.put, List.setIfInBounds_toArray, List.set_cons_zero, List.set_cons_succ]
  refine wpAnyH_take (i := 9) (oi := ⟨some 82, _, _, _, _, _⟩) (v := ?va9) rfl (by kernel_rfl) (by kernel_rfl) (by kernel_rfl) (fun _ _ _ h => h) (Or.inl ⟨by rfl, ?hya9⟩) hHeld ?resta9
  case hya9 => (intro w hSw; (try dsimp only at hSw); go_simp; try with_reducible rfl)
  try simp only [Act.put, List.setIfInBounds_toArray, List.set_cons_zero, List.set_cons_succ]
  refine wpAnyH_take (i := 10) (oi := ⟨some 83, _, _, _, _, _⟩) (v := ?va10) rfl (by kernel_rfl) (by kernel_rfl) (by kernel_rfl) (fun _ _ _ h => h) (Or.inl ⟨by rfl, ?hya10⟩) hHeld ?resta10
  case hya10 => (intro w hSw; (try dsimp only at hSw); go_simp; try with_reducible rfl)
  try simp only [Act.put, List.setIfInBounds_toArray, List.set_cons_zero, List.set_cons_succ]
  refine wpAnyH_take (i := 11) (oi := ⟨some 84, _, _, _, _, _⟩) (v := ?va11) rfl (by kernel_rfl) (by kernel_rfl) (by kernel_rfl) (fun _ _ _ h => h) (Or.inl ⟨by rfl, ?hya11⟩) hHeld ?resta11
  case hya11 => (intro w hSw; (try dsimp only at hSw); go_simp; try with_reducible rfl)
  try simp only [Act.put, List.setIfInBounds_toArray, List.set_cons_zero, List.set_cons_succ]
  refine wpAnyH_take (i := 12) (oi := ⟨some 85, _, _, _, _, _⟩) (v := ?va12) rfl (by kernel_rfl) (by kernel_rfl) (by kernel_rfl) (fun _ _ _ h => h) (Or.inl ⟨by rfl, ?hya12⟩) hHeld ?resta12
  case hya12 => (intro w hSw; (try dsimp only at hSw); go_simp; try with_reducible rfl)
  try simp only [Act.put, List.setIfInBounds_toArray, List.set_cons_zero, List.set_cons_succ]
  refine wpAnyH_take (i := 13) (oi := ⟨some 86, _, _, _, _, _⟩) (v := .agg #[.int .i64 g, .int .i64 n, S X, S T]) rfl (by kernel_rfl) (by kernel_rfl) (by kernel_rfl) (fun _ _ _ h => h) ?hya13 hHeld ?resta13
  case hya13 => exact yieldsIf_load_mid (by rfl) 25 _ rfl w4.heap.size 0 rfl [.int .i64 g, .int .i64 n, S X, S T] _ (fun w' h' => h'.b) Tryd.underlying25 rfl HI.out
  try simp only [Act.put, List.setIfInBounds_toArray, List.set_cons_zero, List.set_cons_succ]
  refine wpAnyH_all (rs := [14]) (by kernel_rfl) (by simp) ?_
  intro i hi
  rw [List.mem_singleton] at hi
  subst hi
  refine wpOp_step (o := ⟨some 87, _, _, _, _, _⟩) rfl (fun K hK => ?_)
  rw [if_pos (by rfl)]
  go_simp
  (go_at_call 16; refine (HH1.out _ hHeld.r hHeld.g).mono ?_; rintro e w6 ⟨rfl, hb6⟩; have hHeld6 := hHeld.next hb6; dsimp only)
  refine hK _ _ ⟨hHeld6, ?_⟩
  clear hK K
  try simp only [Act.put, List.setIfInBounds_toArray, List.set_cons_zero, List.set_cons_succ]
  refine wpAnyH_take (i := 15) (oi := ⟨some 88, _, _, _, _, _⟩) (v := ?vb15) rfl (by kernel_rfl) (by kernel_rfl) (by kernel_rfl) (fun _ _ _ h => h) (Or.inl ⟨by rfl, ?hyb15⟩) hHeld6 ?restb15
  case hyb15 => (intro w hSw; (try dsimp only at hSw); go_simp; try with_reducible rfl)
  try simp only [Act.put, List.setIfInBounds_toArray, List.set_cons_zero, List.set_cons_succ]
  refine wpAnyH_take (i := 16) (oi := ⟨some 89, _, _, _, _, _⟩) (v := ?vb16) rfl (by kernel_rfl) (by kernel_rfl) (by kernel_rfl) (fun _ _ _ h => h) (Or.inl ⟨by rfl, ?hyb16⟩) hHeld6 ?restb16
  case hyb16 => (intro w hSw; (try dsimp only at hSw); go_simp; try with_reducible rfl)
  try simp only [Act.put, List.setIfInBounds_toArray, List.set_cons_zero, List.set_cons_succ]
  refine wpAnyH_take (i := 17) (oi := ⟨some 90, _, _, _, _, _⟩) (v := ?vb17) rfl (by kernel_rfl) (by kernel_rfl) (by kernel_rfl) (fun _ _ _ h => h) (Or.inl ⟨by rfl, ?hyb17⟩) hHeld6 ?restb17
  case hyb17 => (intro w hSw; (try dsimp only at hSw); go_simp; try with_reducible rfl)
  try simp only [Act.put, List.setIfInBounds_toArray, List.set_cons_zero, List.set_cons_succ]
  refine wpAnyH_take (i := 18) (oi := ⟨some 91, _, _, _, _, _⟩) (v := ?vb18) rfl (by kernel_rfl) (by kernel_rfl) (by kernel_rfl) (fun _ _ _ h => h) (Or.inl ⟨by rfl, ?hyb18⟩) hHeld6 ?restb18
  case hyb18 => (intro w hSw; (try dsimp only at hSw); go_simp; try with_reducible rfl)
  try simp only [Act.put, List.setIfInBounds_toArray, List.set_cons_zero, List.set_cons_succ]
  refine wpAnyH_take (i := 19) (oi := ⟨some 92, _, _, _, _, _⟩) (v := .agg #[.int .i64 g, .int .i64 n, S X, S tag]) rfl (by kernel_rfl) (by kernel_rfl) (by kernel_rfl) (fun _ _ _ h => h) ?hyb19 hHeld6 ?restb19
  case hyb19 => exact yieldsIf_load_mid (by rfl) 25 _ rfl (w4.heap.size + 1) 0 rfl [.int .i64 g, .int .i64 n, S X, S tag] _ (fun w' h' => h'.c) Tryd.underlying25 rfl HIT.out
  try simp only [Act.put, List.setIfInBounds_toArray, List.set_cons_zero, List.set_cons_succ]
  refine wpAnyH_take (i := 22) (oi := ⟨some 95, _, _, _, _, _⟩) (v := ?vb22) rfl (by kernel_rfl) (by kernel_rfl) (by kernel_rfl) (fun _ _ _ h => h) (Or.inl ⟨by rfl, ?hyb22⟩) hHeld6 ?restb22
  case hyb22 => (intro w hSw; (try dsimp only at hSw); go_simp; try with_reducible rfl)
  try simp only [Act.put, List.setIfInBounds_toArray, List.set_cons_zero, List.set_cons_succ]
  refine wpAnyH_take (i := 23) (oi := ⟨some 96, _, _, _, _, _⟩) (v := ?vb23) rfl (by kernel_rfl) (by kernel_rfl) (by kernel_rfl) (fun _ _ _ h => h) (Or.inl ⟨by rfl, ?hyb23⟩) hHeld6 ?restb23
  case hyb23 => (intro w hSw; (try dsimp only at hSw); go_simp; try with_reducible rfl)
  try simp only [Act.put, List.setIfInBounds_toArray, List.set_cons_zero, List.set_cons_succ]
  refine wpAnyH_take (i := 24) (oi := ⟨some 97, _, _, _, _, _⟩) (v := ?vb24) rfl (by kernel_rfl) (by kernel_rfl) (by kernel_rfl) (fun _ _ _ h => h) (Or.inl ⟨by rfl, ?hyb24⟩) hHeld6 ?restb24
  case hyb24 => (intro w hSw; have h3 := hSw.three; clear hSw; skip; go_simp; try with_reducible rfl)
  try simp only [Act.put, List.setIfInBounds_toArray, List.set_cons_zero, List.set_cons_succ]
  refine wpAnyH_take (i := 25) (oi := ⟨some 98, _, _, _, _, _⟩) (v := ?vb25) rfl (by kernel_rfl) (by kernel_rfl) (by kernel_rfl) (fun _ _ _ h => h) (Or.inl ⟨by rfl, ?hyb25⟩) hHeld6 ?restb25
  case hyb25 => (intro w hSw; (try dsimp only at hSw); go_simp; try with_reducible rfl)
  try simp only [Act.put, List.setIfInBounds_toArray, List.set_cons_zero, List.set_cons_succ]
  refine wpAnyH_all (rs := [20]) (by kernel_rfl) (by simp) ?_
  intro i hi
  rw [List.mem_singleton] at hi
  subst hi
  refine wpOp_step (o := ⟨some 93, _, _, _, _, _⟩) rfl (fun K hK => ?_)
  rw [if_pos (by rfl)]
  go_simp
  (go_at_call 16; refine (HH2.out _ hHeld6.r hHeld6.g).mono ?_; rintro e w7 ⟨rfl, hb7⟩; have hHeld7 := hHeld6.next hb7; dsimp only)
  refine hK _ _ ⟨hHeld7, ?_⟩
  clear hK K
  try simp only [Act.put, List.setIfInBounds_toArray, List.set_cons_zero, List.set_cons_succ]
  refine wpAnyH_take (i := 21) (oi := ⟨some 94, _, _, _, _, _⟩) (v := ?vc21) rfl (by kernel_rfl) (by kernel_rfl) (by kernel_rfl) (fun _ _ _ h => h) (Or.inl ⟨by rfl, ?hyc21⟩) hHeld7 ?restc21
  case hyc21 => (intro w hSw; (try dsimp only at hSw); go_simp; try with_reducible rfl)
  try simp only [Act.put, List.setIfInBounds_toArray, List.set_cons_zero, List.set_cons_succ]
  refine wpAnyH_take (i := 26) (oi := ⟨some 99, _, _, _, _, _⟩) (v := ?vc26) rfl (by kernel_rfl) (by kernel_rfl) (by kernel_rfl) (fun _ _ _ h => h) (Or.inl ⟨by rfl, ?hyc26⟩) hHeld7 ?restc26
  case hyc26 => (intro w hSw; (try dsimp only at hSw); go_simp; try with_reducible rfl)
  try simp only [Act.put, List.setIfInBounds_toArray, List.set_cons_zero, List.set_cons_succ]
  refine wpAnyH_take (i := 27) (oi := ⟨some 100, _, _, _, _, _⟩) (v := ?vc27) rfl (by kernel_rfl) (by kernel_rfl) (by kernel_rfl) (fun _ _ _ h => h) (Or.inl ⟨by rfl, ?hyc27⟩) hHeld7 ?restc27
  case hyc27 => (intro w hSw; (try dsimp only at hSw); go_simp; try with_reducible rfl)
  try simp only [Act.put, List.setIfInBounds_toArray, List.set_cons_zero, List.set_cons_succ]
  refine wpAnyH_take (i := 28) (oi := ⟨some 101, _, _, _, _, _⟩) (v := ?vc28) rfl (by kernel_rfl) (by kernel_rfl) (by kernel_rfl) (fun _ _ _ h => h) (Or.inl ⟨by rfl, ?hyc28⟩) hHeld7 ?restc28
  case hyc28 => (intro w hSw; (try dsimp only at hSw); go_simp; try with_reducible rfl)
  try simp only [Act.put, List.setIfInBounds_toArray, List.set_cons_zero, List.set_cons_succ]
  refine wpAnyH_all (rs := [29]) (by kernel_rfl) (by simp) ?_
  intro i hi
  rw [List.mem_singleton] at hi
  subst hi
  refine wpOp_step (o := ⟨some 102, _, _, _, _, _⟩) rfl (fun K hK => ?_)
  rw [if_pos (by rfl)]
  go_simp
  (go_at_call 11; refine (one3_any _ hHeld7.g).mono ?_; rintro e w8 ⟨rfl, hb8⟩; have hHeld8 := hHeld7.next hb8; dsimp only)
  refine hK _ _ ⟨hHeld8, ?_⟩
  clear hK K
  try simp only [Act.put, List.setIfInBounds_toArray, List.set_cons_zero, List.set_cons_succ]
  refine wpAnyH_take (i := 30) (oi := ⟨some 103, _, _, _, _, _⟩) (v := ?vd30) rfl (by kernel_rfl) (by kernel_rfl) (by kernel_rfl) (fun _ _ _ h => h) (Or.inl ⟨by rfl, ?hyd30⟩) hHeld8 ?restd30
  case hyd30 => (intro w hSw; (try dsimp only at hSw); go_simp; try with_reducible rfl)
  try simp only [Act.put, List.setIfInBounds_toArray, List.set_cons_zero, List.set_cons_succ]
  refine wpAnyH_take (i := 31) (oi := ⟨some 6, _, _, _, _, _⟩) (v := ?vd31) rfl (by kernel_rfl) (by kernel_rfl) (by kernel_rfl) (fun _ _ _ h => h) (Or.inl ⟨by rfl, ?hyd31⟩) hHeld8 ?restd31
  case hyd31 => (intro w hSw; (try dsimp only at hSw); go_simp; try with_reducible rfl)
  try simp only [Act.put, List.setIfInBounds_toArray, List.set_cons_zero, List.set_cons_succ]
  refine wpAnyH_done (by kernel_rfl) ?_ _
  refine NoPanic.normal ?_
  have hfin := hHeld8.l
  clear hHeld hHeld6 hHeld7 hHeld8 hS0
  go_wp2_with fail
  go_ret
  exact ⟨rfl, hfin⟩
end Go.Proofs.YtocgnkenlfdffaaDoor
