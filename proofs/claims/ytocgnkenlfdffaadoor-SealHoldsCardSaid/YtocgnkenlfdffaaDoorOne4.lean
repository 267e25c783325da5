/- wapentakelaw03.one: the small case. -/
import Derived.Test.YtocgnkenlfdffaaDoorOne3
namespace Go.Proofs.YtocgnkenlfdffaaDoor
open Go Go.RowKit Go.Wap
theorem cells4 {W : World} {g : Nat} {t : TypeId} {a b c d : Value} (h : RowV W g t #[a, b, c, d]) : W.cell? ⟨g, 0, none⟩ = some a ∧ W.cell? ⟨g, 1, none⟩ = some b ∧ W.cell? ⟨g, 2, none⟩ = some c ∧ W.cell? ⟨g, 3, none⟩ = some d :=
  ⟨cell_of_row W g 0 _ t _ h, cell_of_row W g 1 _ t _ h, cell_of_row W g 2 _ t _ h, cell_of_row W g 3 _ t _ h⟩
theorem one3_name (w : World) (hg : Glob w) : Calls Tryd.prog 39 #[pV 0 3] w fun e w' =>
    e = .returned (.tuple #[S [49, 58, 48, 44, 49, 58, 51, 44], .int .i64 0]) ∧ Below w.heap.size w w' := by
  have := name_ok 0 3 w (by decide) hg
  rw [one_name] at this
  exact this
set_option maxRecDepth 100000 in
set_option maxHeartbeats 4000000 in
theorem one3_any (w : World) (hg : GlobB w) : Calls Tryd.prog 11 #[] w fun e w' => e = .returned (.bool true) ∧ Below w.heap.size w w' := by
  have hb0 := (Below.refl w.heap.size w).alloc (Nat.le_refl _) (.cells #[S [115]] 85)
  have hR0 : IsRing (w.alloc (.cells #[S [115]] 85)) w.heap.size [115] := cell_new w _ _ 0
  have HG := Lib.hid (hg.next hb0); have HR := Lib.hid hR0; clear hg hR0
  go_enter Tryd.func11, Tryd.ntmps11
  go_upto_region 8 with (first | (go_at_call 10; refine (ringnew_ok [115] w (by decide)).mono ?_; rintro e w' ⟨rfl, rfl⟩) | (go_at_call 12; refine (sign_gen w.heap.size [115] 0 3 [97] _ (by decide) HR.out (by decide) (by decide) HG.out).mono ?_; rintro e w1 ⟨T, hT, hTe, rfl, hb1⟩; have hb2 := hb0.trans (hb1.mono hb0.size); have HR1 := Lib.hid (HR.out.below hb1); have HG1 := Lib.hid (HG.out.next hb1); have p1 := RowV.new w1 25 #[.int .i64 0, .int .i64 3, S [97], S T]; have hbA := (Below.refl w1.heap.size w1).alloc (Nat.le_refl _) (.cells #[.int .i64 0, .int .i64 3, S [97], S T] 25); have P1 := Lib.hid p1; clear p1) | (go_at_call 39; refine (one3_name _ (HG1.out.next hbA).g).mono ?_; rintro e w2 ⟨rfl, hb3⟩; have hbB := hbA.trans (hb3.mono hbA.size); have HG2 := Lib.hid (HG1.out.next hbB); have HR2 := Lib.hid (HR1.out.below hbB); have hb4 := hb2.trans (hbB.mono hb2.size); have P2 := Lib.hid (P1.out.below hb3 P1.out.lt); obtain ⟨c0, c1, c2, c3⟩ := cells4 P2.out))
  have hbC := (Below.refl w2.heap.size w2).alloc (Nat.le_refl _) (.cells #[.int .i64 0, .int .i64 3, S [98], S T] 25)
  have P3 := Lib.hid (P2.out.below hbC P2.out.lt)
  have Q3 := Lib.hid (RowV.new w2 25 #[.int .i64 0, .int .i64 3, S [98], S T])
  have HG3 := Lib.hid (HG2.out.next hbC)
  have HR3 := Lib.hid (HR2.out.below hbC)
  have hb5 := hb4.trans (hbC.mono hb4.size)
  clear c0 c1 c2 c3 P1 P2 HG HG1 HG2 HR HR1 HR2 hbA hbB hb3 hb1 hb2 hb0
  generalize hW3 : w2.alloc (.cells #[.int .i64 0, .int .i64 3, S [98], S T] 25) = W3 at hbC P3 Q3 HG3 HR3 hb5
  clear hW3
  obtain ⟨c0, c1, c2, c3⟩ := cells4 P3.out
  go_wp2_with (first | (go_at_call 16; refine (check_gen 30 w.heap.size [115] 0 3 [98] T W6 (by decide) hT HR4.out (by decide) (by decide) HG4.out (Lib.hid ⟨fun h => absurd (hTe.out.symm.trans h) one_ne, fun _ => rfl⟩)).mono ?_; rintro e w5 ⟨rfl, hb7⟩; have hb8 := hb6.trans (hb7.mono hb6.size)) | (go_at_call 16; refine (check_gen 0 w.heap.size [115] 0 3 [97] T W3 (by decide) hT HR3.out (by decide) (by decide) HG3.out (Lib.hid ⟨fun _ => rfl, fun h => absurd hTe.out h⟩)).mono ?_; rintro e W6 ⟨rfl, hbD⟩; have hb6 := hb5.trans (hbD.mono hb5.size); have HG4 := Lib.hid (HG3.out.next hbD); have HR4 := Lib.hid (HR3.out.below hbD); obtain ⟨d0, d1, d2, d3⟩ := cells4 (Q3.out.below hbD Q3.out.lt); clear c0 c1 c2 c3))
  go_ret
  exact ⟨rfl, hb8⟩
end Go.Proofs.YtocgnkenlfdffaaDoor
