/- the law SealHolds: its walk. -/
import Derived.Test.YtocgnkenlfdffaaDoorOne4
namespace Go.Wap
theorem party_name (g n : Int) (h : IsP g n) : partyF (nameF g n) = some (g, n) := by
  have ig : InI g := by unfold IsP at h; unfold InI; omega
  have iN : InI n := by unfold IsP at h; unfold InI; omega
  have a := num_len g ig; have b := num_len n iN
  have hu : unpack (nameF g n) = some [num g, num n] := unpack_pack _ (by intro s hs; simp at hs; rcases hs with rfl | rfl <;> omega)
  unfold partyF
  rw [hu]
  simp only [toNum_num g ig, toNum_num n iN, if_pos h]
theorem decode_pack (g n : Int) (X T : Bytes) (h : IsP g n) (hX : X.length < 1000000000) (hT : T.length = 16) : decodeF (pack [nameF g n, X, T]) = some (g, n, X, T) := by
  have ig : InI g := by unfold IsP at h; unfold InI; omega
  have iN : InI n := by unfold IsP at h; unfold InI; omega
  have hnl := name_len g n ig iN
  have hu : unpack (pack [nameF g n, X, T]) = some [nameF g n, X, T] := unpack_pack _ (by intro s hs; simp at hs; rcases hs with rfl | rfl | rfl <;> omega)
  unfold decodeF
  rw [hu]
  simp only [if_pos hT, party_name g n h, Option.map_some]
end Go.Wap
namespace Go.Proofs.YtocgnkenlfdffaaDoor
open Go Go.RowKit Go.Wap
theorem refis_any (g n : Int) (w : World) : Calls Tryd.prog 13 #[pV g n] w fun e w' => e = .returned (.bool (decide (IsP g n))) ∧ Below w.heap.size w w' := by
  have hb0 := (Below.refl w.heap.size w).alloc (Nat.le_refl _) (.cells #[.int .i64 g, .int .i64 n] 23)
  have c0 := cell_new w #[.int .i64 g, .int .i64 n] 23 0
  have c1 := cell_new w #[.int .i64 g, .int .i64 n] 23 1
  simp only [List.getElem?_toArray, List.getElem?_cons_zero, List.getElem?_cons_succ] at c0 c1
  by_cases h1 : -1 ≤ g
  · by_cases h2 : g ≤ 4
    · by_cases h3 : 0 ≤ n
      · by_cases h4 : n ≤ 15
        · rw [show decide (IsP g n) = true by simp [IsP, h1, h2, h3, h4]]
          go_enter Tryd.func13, Tryd.ntmps13
          go_wp2_with fail
          go_ret
          exact ⟨rfl, hb0⟩
        · rw [show decide (IsP g n) = false by simp [IsP, h1, h2, h3, h4]]
          go_enter Tryd.func13, Tryd.ntmps13
          go_wp2_with fail
          go_ret
          exact ⟨rfl, hb0⟩
      · rw [show decide (IsP g n) = false by simp [IsP, h1, h2, h3]]
        go_enter Tryd.func13, Tryd.ntmps13
        go_wp2_with fail
        go_ret
        exact ⟨rfl, hb0⟩
    · rw [show decide (IsP g n) = false by simp [IsP, h1, h2]]
      go_enter Tryd.func13, Tryd.ntmps13
      go_wp2_with fail
      go_ret
      exact ⟨rfl, hb0⟩
  · rw [show decide (IsP g n) = false by simp [IsP, h1]]
    go_enter Tryd.func13, Tryd.ntmps13
    go_wp2_with fail
    go_ret
    exact ⟨rfl, hb0⟩
set_option maxRecDepth 100000 in
set_option maxHeartbeats 4000000 in
theorem holds_long (K tag X T0 : Bytes) (g n : Int) (w : World) (hK : 32 < K.length) (hg : GlobB w) : Calls Tryd.prog 3 #[S K, S tag, sV g n X T0] w fun e w' => e = .returned (.bool true) ∧ Below w.heap.size w w' := by
  have hb0 := (Below.refl w.heap.size w).alloc (Nat.le_refl _) (.cells #[.int .i64 g, .int .i64 n, S X, S T0] 25)
  have HG := Lib.hid (hg.next hb0); clear hg
  have hK2 : ¬ ((K.length : Int) ≤ 32) := by omega
  go_enter Tryd.func3, Tryd.ntmps3
  go_wp2_with (first | (go_at_call 10; refine (ringnew_no K _ hK).mono ?_; rintro e w' ⟨rfl, rfl⟩) | (go_at_call 11; refine (one3_any _ HG.out).mono ?_; rintro e w1 ⟨rfl, hb1⟩))
  go_ret
  exact ⟨by show Ending.returned (Value.bool (!decide ((K.length : Int) ≤ 32))) = _; rw [decide_eq_false (show ¬ ((K.length : Int) ≤ 32) by omega)]; rfl, hb0.trans (hb1.mono hb0.size)⟩
set_option maxRecDepth 100000 in
set_option maxHeartbeats 4000000 in
theorem holds_big (K tag X T0 : Bytes) (g n : Int) (w : World) (hK : K.length ≤ 32) (hX : 20000 < X.length) (hg : GlobB w) : Calls Tryd.prog 3 #[S K, S tag, sV g n X T0] w fun e w' => e = .returned (.bool true) ∧ Below w.heap.size w w' := by
  have hb0 := (Below.refl w.heap.size w).alloc (Nat.le_refl _) (.cells #[.int .i64 g, .int .i64 n, S X, S T0] 25)
  have q0 := RowV.new w 25 #[.int .i64 g, .int .i64 n, S X, S T0]
  have hbA := (Below.refl _ (w.alloc (.cells #[.int .i64 g, .int .i64 n, S X, S T0] 25))).alloc (Nat.le_refl _) (.cells #[S K] 85)
  obtain ⟨c0, c1, c2, c3⟩ := cells4 (q0.alloc (.cells #[S K] 85))
  have hb2 := hb0.trans (hbA.mono hb0.size)
  have HG := Lib.hid (hg.next hb2); clear hg q0 hbA
  have hK2 : ((K.length : Int) ≤ 32) := by omega
  have hX2 : ((X.length : Int) > 20000) := by omega
  go_enter Tryd.func3, Tryd.ntmps3
  go_wp2_with (first | (go_at_call 10; refine (ringnew_ok K _ hK).mono ?_; rintro e w' ⟨rfl, rfl⟩) | (go_at_call 11; refine (one3_any _ HG.out).mono ?_; rintro e w1 ⟨rfl, hb1⟩))
  go_ret
  exact ⟨rfl, hb2.trans (hb1.mono hb2.size)⟩
set_option maxRecDepth 100000 in
set_option maxHeartbeats 4000000 in
theorem holds_odd (K tag X T0 : Bytes) (g n : Int) (w : World) (hK : K.length ≤ 32) (hX : X.length ≤ 20000) (hp : ¬ IsP g n) (hg : GlobB w) : Calls Tryd.prog 3 #[S K, S tag, sV g n X T0] w fun e w' => e = .returned (.bool true) ∧ Below w.heap.size w w' := by
  have hb0 := (Below.refl w.heap.size w).alloc (Nat.le_refl _) (.cells #[.int .i64 g, .int .i64 n, S X, S T0] 25)
  have q0 := RowV.new w 25 #[.int .i64 g, .int .i64 n, S X, S T0]
  have hbA := (Below.refl _ (w.alloc (.cells #[.int .i64 g, .int .i64 n, S X, S T0] 25))).alloc (Nat.le_refl _) (.cells #[S K] 85)
  have q1 := q0.alloc (.cells #[S K] 85)
  obtain ⟨c0, c1, c2, c3⟩ := cells4 q1
  have hb2 := hb0.trans (hbA.mono hb0.size)
  have HG := Lib.hid (hg.next hb2); have HQ := Lib.hid q1; clear hg q0 hbA q1
  have hK2 : ((K.length : Int) ≤ 32) := by omega
  have hX2 : ¬ ((X.length : Int) > 20000) := by omega
  have hd : decide (IsP g n) = false := by simp [hp]
  go_enter Tryd.func3, Tryd.ntmps3
  go_wp2_with (first | (go_at_call 10; refine (ringnew_ok K _ hK).mono ?_; rintro e w' ⟨rfl, rfl⟩) | (go_at_call 12; refine (sign_no _ g n X _ hp).mono ?_; rintro e w1 ⟨rfl, hb1⟩; have hb3 := hb2.trans (hb1.mono hb2.size); have hb4 := hb3.alloc hb3.size (.cells #[.int .i64 0, .int .i64 0, S [], S []] 25); have HG1 := Lib.hid (HG.out.next hb1); have q2 := HQ.out.below hb1 (by simp only [World.size_alloc]; omega); obtain ⟨d0, d1, d2, d3⟩ := cells4 (q2.alloc (.cells #[.int .i64 0, .int .i64 0, S [], S []] 25)); have HG2 := Lib.hid (HG1.out.next ((Below.refl _ w1).alloc (Nat.le_refl _) (.cells #[.int .i64 0, .int .i64 0, S [], S []] 25))); clear c0 c1 c2 c3 q2) | (go_at_call 13; refine (refis_any g n _).mono ?_; rw [hd]; rintro e w3 ⟨rfl, hb5⟩; have hb6 := hb4.trans (hb5.mono hb4.size); have HG3 := Lib.hid (HG2.out.next hb5)) | (go_at_call 11; refine (one3_any _ HG3.out).mono ?_; rintro e w4 ⟨rfl, hb7⟩))
  go_ret
  exact ⟨rfl, hb6.trans (hb7.mono hb6.size)⟩
end Go.Proofs.YtocgnkenlfdffaaDoor
