/- package seal: Sign, Check, Encode. -/
import Derived.Test.YtocgnkenlfdffaaDoorSeal3
namespace Go.Proofs.YtocgnkenlfdffaaDoor
open Go Go.RowKit Go.Wap
theorem pack3_len (a b c : Bytes) (ha : a.length < 1000000000) (hb : b.length < 1000000000) (hc : c.length < 1000000000) : (pack [a, b, c]).length ≤ a.length + b.length + c.length + 33 := by
  have h1 := pack1_len a ha; have h2 := pack1_len b hb; have h3 := pack1_len c hc
  rw [pack_cons, pack_cons, pack_cons, pack_nil]; simp only [List.length_append, List.length_nil]; omega
abbrev zS : Array Value := #[.int .i64 0, .int .i64 0, S [], S []]
theorem sgnUnder : ∃ fs, Tryd.prog.underlying 25 = some (.struct fs) := ⟨_, Tryd.underlying25⟩
set_option maxRecDepth 100000 in
theorem sign_no (rv : Value) (g n : Int) (X : Bytes) (w : World) (h : ¬ IsP g n) : Calls Tryd.prog 12 #[rv, pV g n, S X] w fun e w' =>
    e = .returned (.tuple #[sV 0 0 [] [], .int .i64 1]) ∧ Below w.heap.size w w' := by
  obtain ⟨fs, hfs⟩ := sgnUnder
  have hb0 := ((Below.refl w.heap.size w).alloc (Nat.le_refl _) (.cells #[.int .i64 g, .int .i64 n] 23)).alloc (by simp) (.cells zS 25)
  have r0 : RowV ((w.alloc (.cells #[.int .i64 g, .int .i64 n] 23)).alloc (.cells zS 25)) (w.heap.size + 1) 25 zS := heap_alloc2_new _ _ _
  go_enter Tryd.func12, Tryd.ntmps12
  go_wp2_with (first | (go_at_call 40; refine (tag_no rv g n X _ h).mono ?_; rintro e w1 ⟨rfl, hb1⟩; have r1 := Lib.hid (r0.below hb1 (by simp)); have hb2 := hb0.trans (hb1.mono hb0.size)) | (refine wpList_store_row rfl 25 (.tmp 6) (.tmp 19) rfl (w.heap.size + 1) zS rfl rfl 25 zS r1.out (by kernel_rfl) rfl (by simp [Value.oneCell']) ?_))
  refine bodyPost_ret (results_row_tmp rfl _ rfl (r1.out.set _) hfs rfl (by kernel_rfl)) rfl ?_
  exact ⟨rfl, below_setRow hb2 (by omega)⟩
set_option maxRecDepth 100000 in
set_option maxHeartbeats 1000000 in
theorem sign_gen (r : Nat) (K : Bytes) (g n : Int) (X : Bytes) (w : World) (h : IsP g n) (hr : IsRing w r K) (hK : K.length ≤ 32) (hX : X.length < 281474976710656) (hg : GlobB w) : Calls Tryd.prog 12 #[.pointer (some ⟨r, 0, none⟩), pV g n, S X] w fun e w' =>
    ∃ T : Bytes, T.length = 16 ∧ Hid (T = tagF K X g n) ∧ e = .returned (.tuple #[sV g n X T, .int .i64 0]) ∧ Below w.heap.size w w' := by
  obtain ⟨fs, hfs⟩ := sgnUnder
  have hb0 := ((Below.refl w.heap.size w).alloc (Nat.le_refl _) (.cells #[.int .i64 g, .int .i64 n] 23)).alloc (by simp) (.cells zS 25)
  have r0 : RowV ((w.alloc (.cells #[.int .i64 g, .int .i64 n] 23)).alloc (.cells zS 25)) (w.heap.size + 1) 25 zS := heap_alloc2_new _ _ _
  have q0 : RowV ((w.alloc (.cells #[.int .i64 g, .int .i64 n] 23)).alloc (.cells zS 25)) w.heap.size 23 #[.int .i64 g, .int .i64 n] := (RowV.new w _ _).alloc _
  have HR := Lib.hid (hr.below hb0); have HG := Lib.hid (hg.next hb0); clear hr hg
  go_enter Tryd.func12, Tryd.ntmps12
  go_wp2_with (first | (go_at_call 40; refine (tag_gen r K g n X _ h HR.out hK hX HG.out).mono ?_; rintro e w1 ⟨T, hT, hTe, rfl, hb1⟩; have r1 := Lib.hid (r0.below hb1 (by simp)); have hb2 := hb0.trans (hb1.mono hb0.size); have q1 := q0.below hb1 (by simp only [World.size_alloc]; omega); have c0 := cell_of_row w1 w.heap.size 0 _ _ _ q1; have c1 := cell_of_row w1 w.heap.size 1 _ _ _ q1; simp only [List.getElem?_toArray, List.getElem?_cons_zero, List.getElem?_cons_succ] at c0 c1; clear r0 q0) | (refine wpList_store_row rfl 25 (.tmp 6) (.tmp 24) rfl (w.heap.size + 1) #[.int .i64 g, .int .i64 n, S X, S T] rfl rfl 25 zS r1.out (by kernel_rfl) rfl (by simp [Value.oneCell']) ?_))
  refine bodyPost_ret (results_row_tmp rfl _ rfl (r1.out.set _) hfs rfl (by kernel_rfl)) rfl ?_
  exact ⟨T, hT, hTe, rfl, below_setRow hb2 (by omega)⟩
set_option maxRecDepth 100000 in
set_option maxHeartbeats 1000000 in
theorem encode_gen (g n : Int) (X T : Bytes) (w : World) (h : IsP g n) (hT : T.length = 16) (hX : X.length < 1000000000) (hg : Glob w) : Calls Tryd.prog 14 #[sV g n X T] w fun e w' =>
    e = .returned (.tuple #[S (pack [nameF g n, X, T]), .int .i64 0]) ∧ Below w.heap.size w w' := by
  have hb0 := (Below.refl w.heap.size w).alloc (Nat.le_refl _) (.cells #[.int .i64 g, .int .i64 n, S X, S T] 25)
  have q0 := RowV.new w 25 #[.int .i64 g, .int .i64 n, S X, S T]
  have ig : InI g := by unfold IsP at h; unfold InI; omega
  have iN : InI n := by unfold IsP at h; unfold InI; omega
  have hnl := name_len g n ig iN
  have hpn : ∀ s ∈ [nameF g n, X, T], s.length ≤ 140737488355328 := by
    intro s hs
    rcases List.mem_cons.1 hs with rfl | hs
    · omega
    rcases List.mem_cons.1 hs with rfl | hs
    · omega
    rcases List.mem_cons.1 hs with rfl | hs
    · omega
    cases hs
  have hpl : (pack [nameF g n, X, T]).length ≤ 140737488355328 := by
    have := pack3_len (nameF g n) X T (by omega) hX (by omega)
    omega
  have HG := Lib.hid (hg.next hb0); clear hg
  have HQ := Lib.hid q0
  have c0 := cell_of_row _ w.heap.size 0 _ _ _ q0; have c1 := cell_of_row _ w.heap.size 1 _ _ _ q0
  simp only [List.getElem?_toArray, List.getElem?_cons_zero, List.getElem?_cons_succ] at c0 c1
  clear q0
  go_enter Tryd.func14, Tryd.ntmps14
  go_wp2_with (first | (go_at_call 41; refine (pack_any _ [nameF g n, X, T] _ (strs_new w1 [nameF g n, X, T] _ 3) hpl hpn (HG1.out.next ((Below.refl _ w1).alloc (Nat.le_refl _) _))).mono ?_; rintro e w3 ⟨rfl, hb3⟩) | (go_at_call 39; refine (name_ok g n _ h HG.out).mono ?_; rintro e w1 ⟨rfl, hb1⟩; have hb2 := hb0.trans (hb1.mono hb0.size); have q1 := HQ.out.below hb1 (by simp); have d2 := cell_of_row w1 w.heap.size 2 _ _ _ q1; have d3 := cell_of_row w1 w.heap.size 3 _ _ _ q1; simp only [List.getElem?_toArray, List.getElem?_cons_zero, List.getElem?_cons_succ] at d2 d3; have HG1 := Lib.hid (HG.out.next hb1); clear q1 c0 c1))
  go_ret2
  have h3 := hb2.alloc hb2.size (.cells (([nameF g n, X, T] : List Bytes).map S).toArray 9)
  exact ⟨rfl, h3.trans (hb3.mono h3.size)⟩
end Go.Proofs.YtocgnkenlfdffaaDoor
