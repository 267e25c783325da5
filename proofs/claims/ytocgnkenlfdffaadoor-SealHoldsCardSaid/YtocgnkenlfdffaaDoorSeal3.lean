/- package seal: Tag, Sign. -/
import Derived.Test.YtocgnkenlfdffaaDoorSeal2
namespace Go.Proofs.YtocgnkenlfdffaaDoor
open Go Go.RowKit Go.Wap
theorem tagF_len (K X : Bytes) (g n : Int) : (tagF K X g n).length = 16 := by unfold tagF; rw [List.length_take, sumF_len]; rfl
theorem stamp_gen (r : Nat) (K : Bytes) (g n : Int) (X : Bytes) (w : World) (h : IsP g n) (hr : IsRing w r K) (hK : K.length ≤ 32) (hX : X.length < 281474976710656) (hg : GlobB w) : Calls Tryd.prog 44 #[.pointer (some ⟨r, 0, none⟩), pV g n, S X] w fun e w' =>
    ∃ T : Bytes, T.length = 16 ∧ Hid (T = tagF K X g n) ∧ e = .returned (.tuple #[.agg (bytesV T), .int .i64 0]) ∧ Below w.heap.size w w' :=
  (stamp_ok r K g n X w h hr hK hX hg).mono fun _ _ ⟨he, hb⟩ => ⟨_, tagF_len _ _ _ _, Lib.hid rfl, he, hb⟩
theorem IsRing.below {w w' : World} {r : Nat} {K : Bytes} (h : IsRing w r K) (hb : Below w.heap.size w w') : IsRing w' r K := (hb.cell (p := ⟨r, 0, none⟩) (World.block_lt_of_cell? w ⟨r, 0, none⟩ h)).trans h
/-- the bytes of an array as a text -/
theorem conv_row (W : World) (B : Nat) (t : TypeId) (T : Bytes) (n : Nat) (hn : T.length = n) (h : RowV W B t (bytesV T)) (c : Nat) : (convert 98 9 (.slice (some ⟨B, 0, none⟩) n c)).run Tryd.prog W = .ok (S T) W := by
  subst hn
  exact run_convert_bytes_back (P := Tryd.prog) W 98 9 5 ⟨B, 0, none⟩ c T (by kernel_rfl) (by kernel_rfl) (by kernel_rfl) (by
    intro j hj
    have hadd : (⟨B, 0, none⟩ : Addr).add j = ⟨B, j, none⟩ := by unfold Addr.add; split <;> simp_all
    rw [hadd, cell_of_row W B j _ t (0, 0) h, bytesV_at T j hj]
    simp [hj])
theorem tag_no (rv : Value) (g n : Int) (X : Bytes) (w : World) (h : ¬ IsP g n) : Calls Tryd.prog 40 #[rv, pV g n, S X] w fun e w' =>
    e = .returned (.tuple #[S [], .int .i64 1]) ∧ Below w.heap.size w w' := by
  have hb0 := (Below.refl w.heap.size w).alloc (Nat.le_refl _) (.cells #[.int .i64 g, .int .i64 n] 23)
  go_enter Tryd.func40, Tryd.ntmps40
  go_wp2_with (first | (go_at_call 44; refine (stamp_no rv g n X _ h).mono ?_; rintro e w1 ⟨rfl, hb1⟩; have hb2 := hb0.trans (hb1.mono hb0.size)) | (refine wpList_store_row rfl 95 (.tmp 8) (.tmp 15) rfl w1.heap.size (bytesV z16) rfl rfl 95 (bytesV z16) (heap_alloc_new w1 _) (by kernel_rfl) rfl (bytesV_one _) ?_))
  go_ret2
  exact ⟨rfl, below_setRow (hb2.alloc hb2.size _) hb2.size⟩
set_option maxRecDepth 100000 in
set_option maxHeartbeats 1000000 in
theorem tag_gen (r : Nat) (K : Bytes) (g n : Int) (X : Bytes) (w : World) (h : IsP g n) (hr : IsRing w r K) (hK : K.length ≤ 32) (hX : X.length < 281474976710656) (hg : GlobB w) : Calls Tryd.prog 40 #[.pointer (some ⟨r, 0, none⟩), pV g n, S X] w fun e w' =>
    ∃ T : Bytes, T.length = 16 ∧ Hid (T = tagF K X g n) ∧ e = .returned (.tuple #[S T, .int .i64 0]) ∧ Below w.heap.size w w' := by
  have hb0 := (Below.refl w.heap.size w).alloc (Nat.le_refl _) (.cells #[.int .i64 g, .int .i64 n] 23)
  have HR := Lib.hid (hr.below hb0); have HG := Lib.hid (hg.next hb0); clear hr hg
  go_enter Tryd.func40, Tryd.ntmps40
  go_wp2_with (first | (go_at_call 44; refine (stamp_gen r K g n X _ h HR.out hK hX HG.out).mono ?_; rintro e w1 ⟨T, hT, hTe, rfl, hb1⟩; have hb2 := hb0.trans (hb1.mono hb0.size); have hcv := fun c => conv_row (w1.alloc (.cells (bytesV T) 95)) w1.heap.size 95 T 16 hT (RowV.new w1 _ (bytesV T)) c) | (refine wpList_store_row rfl 95 (.tmp 8) (.tmp 15) rfl w1.heap.size (bytesV T) rfl rfl 95 (bytesV z16) (heap_alloc_new w1 _) (by rw [bytesV_size, hT]; kernel_rfl) (by rw [bytesV_size, bytesV_size, hT]; rfl) (bytesV_one _) ?_; rw [setRow_alloc]))
  go_ret2
  exact ⟨T, hT, hTe, rfl, hb2.alloc hb2.size _⟩
end Go.Proofs.YtocgnkenlfdffaaDoor
