/- law 14, ShardNil: the walk. -/
import Derived.Test.YtocgnkenlfdffaaDoorShW5
namespace Go.Proofs.YtocgnkenlfdffaaDoor
open Go Go.RowKit Go.Wap
abbrev boxN (w : World) : World := w.alloc (.cells #[.int .i64 0, .string ⟨#[]⟩] 74)
def stepV (k c n : Int) (o : OpT) (X : Bytes) : Value := .agg #[.int .i64 k, .int .i64 c, .int .i64 n, .int .i64 o.kind, S o.key, S o.value, S o.old, S X]
abbrev cellsStep (k c n : Int) (o : OpT) (X : Bytes) : Array Value := #[.int .i64 k, .int .i64 c, .int .i64 n, .int .i64 o.kind, S o.key, S o.value, S o.old, S X]
abbrev boxS (w : World) (k c n : Int) (o : OpT) (X : Bytes) : World := w.alloc (.cells (cellsStep k c n o X) 71)
theorem text_nil (w : World) (hg : Glob w) : Calls Tryd.prog 35 #[.pointer none] w fun e w' => e = .returned (S (textS sh0)) ∧ Below w.heap.size w w' :=
  text_off (.pointer none) 0 w hg (by omega) (by omega) (by omega) (fun W _ => status_nil W)
theorem content_nil (w : World) : Calls Tryd.prog 33 #[.pointer none] w fun e w' => e = .returned (.string ⟨#[]⟩) ∧ w = w' :=
  content_off (.pointer none) 0 w (fun W _ => status_nil W) (by omega) (by omega)
theorem install_nil (c : Value) (w : World) : Calls Tryd.prog 30 #[.pointer none, c] w fun e w' => e = .returned (.int .i64 7) ∧ w = w' :=
  install_off (.pointer none) c 0 w (by omega) (status_nil w)
theorem sh0_ok : ShOk sh0 := shOk_new 0 (by omega)
set_option maxHeartbeats 400000 in
theorem nil_c1 (k c n : Int) (o : OpT) (X : Bytes) (w : World) (hg : Glob w) (h : c < 0) : Calls Tryd.prog 7 #[stepV k c n o X] w fun e w' => e = .returned (.bool true) ∧ Below w.heap.size w w' := by
  have hdo : ∀ W, Calls Tryd.prog 34 #[.pointer none, .int .i64 c, .int .i64 n, .agg #[.int .i64 o.kind, S o.key, S o.value, S o.old]] W fun e w' => e = .returned (.tuple #[.agg #[.int .i64 0, .string ⟨#[]⟩], .bool false, .int .i64 1]) ∧ Below W.heap.size W w' := fun W =>
    do_arg (.pointer none) c n o W (.inl h)
  obtain ⟨T, hT⟩ : ∃ T, T = textS sh0 := ⟨_, rfl⟩
  have htn : ∀ W, Glob W → Calls Tryd.prog 35 #[.pointer none] W fun e w' => e = .returned (S T) ∧ Below W.heap.size W w' := fun W hW => by rw [hT]; exact text_nil W hW
  have hto : ∀ a W s, Own a W s sh0 → Glob W → Calls Tryd.prog 35 #[.pointer (some ⟨s, 0, none⟩)] W fun e w' => e = .returned (S T) ∧ Below W.heap.size W w' := fun a W s o hW => by rw [hT]; exact own_text o sh0_ok hW
  have HG := Lib.hid hg; have HDO := Lib.hid hdo; have HTN := Lib.hid htn; have HTO := Lib.hid hto
  have hb0 : Below w.heap.size w (boxS w k c n o X) := (Below.refl _ w).alloc (Nat.le_refl _) _
  have HB0 := Lib.hid hb0
  have row0 := RowV.new w 71 (cellsStep k c n o X)
  have d1 := row0.range 3 [.int .i64 o.kind, S o.key, S o.value, S o.old] (by intro j v h; rcases j with _ | _ | _ | _ | j <;> simp_all)
  have R0 := Lib.hid row0
  have HX : Hid (∀ W, Below (w.heap.size + 1) (boxS w k c n o X) W → W.cell? ⟨w.heap.size, 1, none⟩ = some (.int .i64 c) ∧ W.cell? ⟨w.heap.size, 2, none⟩ = some (.int .i64 n) ∧ W.cell? ⟨w.heap.size, 7, none⟩ = some (S X)) := Lib.hid (fun W hW => by
    have := row0.below hW (by omega)
    exact ⟨this.cell 1, this.cell 2, this.cell 7⟩)
  clear hg hdo htn hto hb0 hT row0
  unfold stepV
  go_enter Tryd.func7, Tryd.ntmps7
  go_wp2_with (first | (go_at_call 34; with_reducible refine (HDO.out _).mono ?_; rintro e w1 ⟨rfl, hb1⟩; have HB1 : Hid (Below (w.heap.size + 1) (boxS w k c n o X) (boxN w1)) := Lib.hid ((hb1.mono (by simp)).alloc (by have := hb1.size; simp at this; exact this) _); have HB2 : Hid (Below w.heap.size w (boxN w1)) := Lib.hid (HB0.out.trans (HB1.out.mono (by omega))); obtain ⟨x1, x2, x3⟩ := HX.out _ HB1.out; clear hb1) | (go_at_call 26; with_reducible refine (begin_nil _).mono ?_; rintro e w' ⟨rfl, rfl⟩) | (go_at_call 27; with_reducible refine (pull_nil _).mono ?_; rintro e w' ⟨rfl, rfl⟩) | (go_at_call 28; with_reducible refine (freeze_nil _).mono ?_; rintro e w' ⟨rfl, rfl⟩) | (go_at_call 29; with_reducible refine (drop_nil _).mono ?_; rintro e w' ⟨rfl, rfl⟩) | (go_at_call 30; with_reducible refine (install_nil _ _).mono ?_; rintro e w' ⟨rfl, rfl⟩) | (go_at_call 31; with_reducible refine (status_nil _).mono ?_; rintro e w' ⟨rfl, rfl⟩) | (go_at_call 33; with_reducible refine (content_nil _).mono ?_; rintro e w' ⟨rfl, rfl⟩) | (go_at_call 35; with_reducible refine (HTN.out _ (HG.out.next HB2.out)).mono ?_; rintro e w3 ⟨rfl, hb3⟩; have HB3 : Hid (Below w.heap.size w w3) := Lib.hid (HB2.out.trans (hb3.mono HB2.out.size)); clear hb3) | (go_at_call 23; with_reducible refine (own_new w3).mono ?_; rintro e w4 ⟨s, rfl, o4⟩; have O4 : Hid (Own w3 w4 s sh0) := Lib.hid o4; have HB4 : Hid (Below w.heap.size w w4) := Lib.hid (HB3.out.trans (o4.bl.mono HB3.out.size)); clear o4) | (go_at_call 35; with_reducible refine (HTO.out w3 w4 s O4.out (HG.out.next HB4.out)).mono ?_; rintro e w5 ⟨rfl, hb5⟩; have HB5 : Hid (Below w.heap.size w w5) := Lib.hid (HB4.out.trans (hb5.mono HB4.out.size)); clear hb5) | (go_at_call 24; with_reducible refine (serves_any w5).mono ?_; rintro e w6 ⟨rfl, hb6⟩; have HB6 : Hid (Below w.heap.size w w6) := Lib.hid (HB5.out.trans (hb6.mono HB5.out.size)); clear hb6))
  go_ret
  exact ⟨rfl, HB6.out⟩
set_option maxHeartbeats 400000 in
theorem nil_c2 (k c n : Int) (o : OpT) (X : Bytes) (w : World) (hg : Glob w) (h0 : ¬ c < 0) (h : 8 ≤ c) : Calls Tryd.prog 7 #[stepV k c n o X] w fun e w' => e = .returned (.bool true) ∧ Below w.heap.size w w' := by
  have hdo : ∀ W, Calls Tryd.prog 34 #[.pointer none, .int .i64 c, .int .i64 n, .agg #[.int .i64 o.kind, S o.key, S o.value, S o.old]] W fun e w' => e = .returned (.tuple #[.agg #[.int .i64 0, .string ⟨#[]⟩], .bool false, .int .i64 1]) ∧ Below W.heap.size W w' := fun W =>
    do_arg (.pointer none) c n o W (.inr (.inl h))
  obtain ⟨T, hT⟩ : ∃ T, T = textS sh0 := ⟨_, rfl⟩
  have htn : ∀ W, Glob W → Calls Tryd.prog 35 #[.pointer none] W fun e w' => e = .returned (S T) ∧ Below W.heap.size W w' := fun W hW => by rw [hT]; exact text_nil W hW
  have hto : ∀ a W s, Own a W s sh0 → Glob W → Calls Tryd.prog 35 #[.pointer (some ⟨s, 0, none⟩)] W fun e w' => e = .returned (S T) ∧ Below W.heap.size W w' := fun a W s o hW => by rw [hT]; exact own_text o sh0_ok hW
  have HG := Lib.hid hg; have HDO := Lib.hid hdo; have HTN := Lib.hid htn; have HTO := Lib.hid hto
  have hb0 : Below w.heap.size w (boxS w k c n o X) := (Below.refl _ w).alloc (Nat.le_refl _) _
  have HB0 := Lib.hid hb0
  have row0 := RowV.new w 71 (cellsStep k c n o X)
  have d1 := row0.range 3 [.int .i64 o.kind, S o.key, S o.value, S o.old] (by intro j v h; rcases j with _ | _ | _ | _ | j <;> simp_all)
  have R0 := Lib.hid row0
  have HX : Hid (∀ W, Below (w.heap.size + 1) (boxS w k c n o X) W → W.cell? ⟨w.heap.size, 1, none⟩ = some (.int .i64 c) ∧ W.cell? ⟨w.heap.size, 2, none⟩ = some (.int .i64 n) ∧ W.cell? ⟨w.heap.size, 7, none⟩ = some (S X)) := Lib.hid (fun W hW => by
    have := row0.below hW (by omega)
    exact ⟨this.cell 1, this.cell 2, this.cell 7⟩)
  clear hg hdo htn hto hb0 hT row0
  unfold stepV
  go_enter Tryd.func7, Tryd.ntmps7
  go_wp2_with (first | (go_at_call 34; with_reducible refine (HDO.out _).mono ?_; rintro e w1 ⟨rfl, hb1⟩; have HB1 : Hid (Below (w.heap.size + 1) (boxS w k c n o X) (boxN w1)) := Lib.hid ((hb1.mono (by simp)).alloc (by have := hb1.size; simp at this; exact this) _); have HB2 : Hid (Below w.heap.size w (boxN w1)) := Lib.hid (HB0.out.trans (HB1.out.mono (by omega))); obtain ⟨x1, x2, x3⟩ := HX.out _ HB1.out; clear hb1) | (go_at_call 26; with_reducible refine (begin_nil _).mono ?_; rintro e w' ⟨rfl, rfl⟩) | (go_at_call 27; with_reducible refine (pull_nil _).mono ?_; rintro e w' ⟨rfl, rfl⟩) | (go_at_call 28; with_reducible refine (freeze_nil _).mono ?_; rintro e w' ⟨rfl, rfl⟩) | (go_at_call 29; with_reducible refine (drop_nil _).mono ?_; rintro e w' ⟨rfl, rfl⟩) | (go_at_call 30; with_reducible refine (install_nil _ _).mono ?_; rintro e w' ⟨rfl, rfl⟩) | (go_at_call 31; with_reducible refine (status_nil _).mono ?_; rintro e w' ⟨rfl, rfl⟩) | (go_at_call 33; with_reducible refine (content_nil _).mono ?_; rintro e w' ⟨rfl, rfl⟩) | (go_at_call 35; with_reducible refine (HTN.out _ (HG.out.next HB2.out)).mono ?_; rintro e w3 ⟨rfl, hb3⟩; have HB3 : Hid (Below w.heap.size w w3) := Lib.hid (HB2.out.trans (hb3.mono HB2.out.size)); clear hb3) | (go_at_call 23; with_reducible refine (own_new w3).mono ?_; rintro e w4 ⟨s, rfl, o4⟩; have O4 : Hid (Own w3 w4 s sh0) := Lib.hid o4; have HB4 : Hid (Below w.heap.size w w4) := Lib.hid (HB3.out.trans (o4.bl.mono HB3.out.size)); clear o4) | (go_at_call 35; with_reducible refine (HTO.out w3 w4 s O4.out (HG.out.next HB4.out)).mono ?_; rintro e w5 ⟨rfl, hb5⟩; have HB5 : Hid (Below w.heap.size w w5) := Lib.hid (HB4.out.trans (hb5.mono HB4.out.size)); clear hb5) | (go_at_call 24; with_reducible refine (serves_any w5).mono ?_; rintro e w6 ⟨rfl, hb6⟩; have HB6 : Hid (Below w.heap.size w w6) := Lib.hid (HB5.out.trans (hb6.mono HB5.out.size)); clear hb6))
  go_ret
  exact ⟨rfl, HB6.out⟩
set_option maxHeartbeats 400000 in
theorem nil_c3 (k c n : Int) (o : OpT) (X : Bytes) (w : World) (hg : Glob w) (h0 : 0 ≤ c) (h1 : c < 8) (h : n < 1) : Calls Tryd.prog 7 #[stepV k c n o X] w fun e w' => e = .returned (.bool true) ∧ Below w.heap.size w w' := by
  have hdo : ∀ W, Calls Tryd.prog 34 #[.pointer none, .int .i64 c, .int .i64 n, .agg #[.int .i64 o.kind, S o.key, S o.value, S o.old]] W fun e w' => e = .returned (.tuple #[.agg #[.int .i64 0, .string ⟨#[]⟩], .bool false, .int .i64 1]) ∧ Below W.heap.size W w' := fun W =>
    do_arg (.pointer none) c n o W (.inr (.inr (.inl h)))
  obtain ⟨T, hT⟩ : ∃ T, T = textS sh0 := ⟨_, rfl⟩
  have htn : ∀ W, Glob W → Calls Tryd.prog 35 #[.pointer none] W fun e w' => e = .returned (S T) ∧ Below W.heap.size W w' := fun W hW => by rw [hT]; exact text_nil W hW
  have hto : ∀ a W s, Own a W s sh0 → Glob W → Calls Tryd.prog 35 #[.pointer (some ⟨s, 0, none⟩)] W fun e w' => e = .returned (S T) ∧ Below W.heap.size W w' := fun a W s o hW => by rw [hT]; exact own_text o sh0_ok hW
  have HG := Lib.hid hg; have HDO := Lib.hid hdo; have HTN := Lib.hid htn; have HTO := Lib.hid hto
  have hb0 : Below w.heap.size w (boxS w k c n o X) := (Below.refl _ w).alloc (Nat.le_refl _) _
  have HB0 := Lib.hid hb0
  have row0 := RowV.new w 71 (cellsStep k c n o X)
  have d1 := row0.range 3 [.int .i64 o.kind, S o.key, S o.value, S o.old] (by intro j v h; rcases j with _ | _ | _ | _ | j <;> simp_all)
  have R0 := Lib.hid row0
  have HX : Hid (∀ W, Below (w.heap.size + 1) (boxS w k c n o X) W → W.cell? ⟨w.heap.size, 1, none⟩ = some (.int .i64 c) ∧ W.cell? ⟨w.heap.size, 2, none⟩ = some (.int .i64 n) ∧ W.cell? ⟨w.heap.size, 7, none⟩ = some (S X)) := Lib.hid (fun W hW => by
    have := row0.below hW (by omega)
    exact ⟨this.cell 1, this.cell 2, this.cell 7⟩)
  clear hg hdo htn hto hb0 hT row0
  unfold stepV
  go_enter Tryd.func7, Tryd.ntmps7
  go_wp2_with (first | (go_at_call 34; with_reducible refine (HDO.out _).mono ?_; rintro e w1 ⟨rfl, hb1⟩; have HB1 : Hid (Below (w.heap.size + 1) (boxS w k c n o X) (boxN w1)) := Lib.hid ((hb1.mono (by simp)).alloc (by have := hb1.size; simp at this; exact this) _); have HB2 : Hid (Below w.heap.size w (boxN w1)) := Lib.hid (HB0.out.trans (HB1.out.mono (by omega))); obtain ⟨x1, x2, x3⟩ := HX.out _ HB1.out; clear hb1) | (go_at_call 26; with_reducible refine (begin_nil _).mono ?_; rintro e w' ⟨rfl, rfl⟩) | (go_at_call 27; with_reducible refine (pull_nil _).mono ?_; rintro e w' ⟨rfl, rfl⟩) | (go_at_call 28; with_reducible refine (freeze_nil _).mono ?_; rintro e w' ⟨rfl, rfl⟩) | (go_at_call 29; with_reducible refine (drop_nil _).mono ?_; rintro e w' ⟨rfl, rfl⟩) | (go_at_call 30; with_reducible refine (install_nil _ _).mono ?_; rintro e w' ⟨rfl, rfl⟩) | (go_at_call 31; with_reducible refine (status_nil _).mono ?_; rintro e w' ⟨rfl, rfl⟩) | (go_at_call 33; with_reducible refine (content_nil _).mono ?_; rintro e w' ⟨rfl, rfl⟩) | (go_at_call 35; with_reducible refine (HTN.out _ (HG.out.next HB2.out)).mono ?_; rintro e w3 ⟨rfl, hb3⟩; have HB3 : Hid (Below w.heap.size w w3) := Lib.hid (HB2.out.trans (hb3.mono HB2.out.size)); clear hb3) | (go_at_call 23; with_reducible refine (own_new w3).mono ?_; rintro e w4 ⟨s, rfl, o4⟩; have O4 : Hid (Own w3 w4 s sh0) := Lib.hid o4; have HB4 : Hid (Below w.heap.size w w4) := Lib.hid (HB3.out.trans (o4.bl.mono HB3.out.size)); clear o4) | (go_at_call 35; with_reducible refine (HTO.out w3 w4 s O4.out (HG.out.next HB4.out)).mono ?_; rintro e w5 ⟨rfl, hb5⟩; have HB5 : Hid (Below w.heap.size w w5) := Lib.hid (HB4.out.trans (hb5.mono HB4.out.size)); clear hb5) | (go_at_call 24; with_reducible refine (serves_any w5).mono ?_; rintro e w6 ⟨rfl, hb6⟩; have HB6 : Hid (Below w.heap.size w w6) := Lib.hid (HB5.out.trans (hb6.mono HB5.out.size)); clear hb6))
  go_ret
  exact ⟨rfl, HB6.out⟩
set_option maxHeartbeats 400000 in
theorem nil_c4 (k c n : Int) (o : OpT) (X : Bytes) (w : World) (hg : Glob w) (h0 : 0 ≤ c) (h1 : c < 8) (h2 : 1 ≤ n) (h : ¬ n ≤ 1099511627776) : Calls Tryd.prog 7 #[stepV k c n o X] w fun e w' => e = .returned (.bool true) ∧ Below w.heap.size w w' := by
  have hdo : ∀ W, Calls Tryd.prog 34 #[.pointer none, .int .i64 c, .int .i64 n, .agg #[.int .i64 o.kind, S o.key, S o.value, S o.old]] W fun e w' => e = .returned (.tuple #[.agg #[.int .i64 0, .string ⟨#[]⟩], .bool false, .int .i64 1]) ∧ Below W.heap.size W w' := fun W =>
    do_arg (.pointer none) c n o W (.inr (.inr (.inr (by unfold Big; omega))))
  obtain ⟨T, hT⟩ : ∃ T, T = textS sh0 := ⟨_, rfl⟩
  have htn : ∀ W, Glob W → Calls Tryd.prog 35 #[.pointer none] W fun e w' => e = .returned (S T) ∧ Below W.heap.size W w' := fun W hW => by rw [hT]; exact text_nil W hW
  have hto : ∀ a W s, Own a W s sh0 → Glob W → Calls Tryd.prog 35 #[.pointer (some ⟨s, 0, none⟩)] W fun e w' => e = .returned (S T) ∧ Below W.heap.size W w' := fun a W s o hW => by rw [hT]; exact own_text o sh0_ok hW
  have HG := Lib.hid hg; have HDO := Lib.hid hdo; have HTN := Lib.hid htn; have HTO := Lib.hid hto
  have hb0 : Below w.heap.size w (boxS w k c n o X) := (Below.refl _ w).alloc (Nat.le_refl _) _
  have HB0 := Lib.hid hb0
  have row0 := RowV.new w 71 (cellsStep k c n o X)
  have d1 := row0.range 3 [.int .i64 o.kind, S o.key, S o.value, S o.old] (by intro j v h; rcases j with _ | _ | _ | _ | j <;> simp_all)
  have R0 := Lib.hid row0
  have HX : Hid (∀ W, Below (w.heap.size + 1) (boxS w k c n o X) W → W.cell? ⟨w.heap.size, 1, none⟩ = some (.int .i64 c) ∧ W.cell? ⟨w.heap.size, 2, none⟩ = some (.int .i64 n) ∧ W.cell? ⟨w.heap.size, 7, none⟩ = some (S X)) := Lib.hid (fun W hW => by
    have := row0.below hW (by omega)
    exact ⟨this.cell 1, this.cell 2, this.cell 7⟩)
  clear hg hdo htn hto hb0 hT row0
  unfold stepV
  go_enter Tryd.func7, Tryd.ntmps7
  go_wp2_with (first | (go_at_call 34; with_reducible refine (HDO.out _).mono ?_; rintro e w1 ⟨rfl, hb1⟩; have HB1 : Hid (Below (w.heap.size + 1) (boxS w k c n o X) (boxN w1)) := Lib.hid ((hb1.mono (by simp)).alloc (by have := hb1.size; simp at this; exact this) _); have HB2 : Hid (Below w.heap.size w (boxN w1)) := Lib.hid (HB0.out.trans (HB1.out.mono (by omega))); obtain ⟨x1, x2, x3⟩ := HX.out _ HB1.out; clear hb1) | (go_at_call 26; with_reducible refine (begin_nil _).mono ?_; rintro e w' ⟨rfl, rfl⟩) | (go_at_call 27; with_reducible refine (pull_nil _).mono ?_; rintro e w' ⟨rfl, rfl⟩) | (go_at_call 28; with_reducible refine (freeze_nil _).mono ?_; rintro e w' ⟨rfl, rfl⟩) | (go_at_call 29; with_reducible refine (drop_nil _).mono ?_; rintro e w' ⟨rfl, rfl⟩) | (go_at_call 30; with_reducible refine (install_nil _ _).mono ?_; rintro e w' ⟨rfl, rfl⟩) | (go_at_call 31; with_reducible refine (status_nil _).mono ?_; rintro e w' ⟨rfl, rfl⟩) | (go_at_call 33; with_reducible refine (content_nil _).mono ?_; rintro e w' ⟨rfl, rfl⟩) | (go_at_call 35; with_reducible refine (HTN.out _ (HG.out.next HB2.out)).mono ?_; rintro e w3 ⟨rfl, hb3⟩; have HB3 : Hid (Below w.heap.size w w3) := Lib.hid (HB2.out.trans (hb3.mono HB2.out.size)); clear hb3) | (go_at_call 23; with_reducible refine (own_new w3).mono ?_; rintro e w4 ⟨s, rfl, o4⟩; have O4 : Hid (Own w3 w4 s sh0) := Lib.hid o4; have HB4 : Hid (Below w.heap.size w w4) := Lib.hid (HB3.out.trans (o4.bl.mono HB3.out.size)); clear o4) | (go_at_call 35; with_reducible refine (HTO.out w3 w4 s O4.out (HG.out.next HB4.out)).mono ?_; rintro e w5 ⟨rfl, hb5⟩; have HB5 : Hid (Below w.heap.size w w5) := Lib.hid (HB4.out.trans (hb5.mono HB4.out.size)); clear hb5) | (go_at_call 24; with_reducible refine (serves_any w5).mono ?_; rintro e w6 ⟨rfl, hb6⟩; have HB6 : Hid (Below w.heap.size w w6) := Lib.hid (HB5.out.trans (hb6.mono HB5.out.size)); clear hb6))
  go_ret
  exact ⟨congrArg (fun b => Ending.returned (.bool !b)) (decide_eq_false (by omega : ¬ n ≤ 1099511627776)), HB6.out⟩
set_option maxHeartbeats 400000 in
theorem nil_c5 (k c n : Int) (o : OpT) (X : Bytes) (w : World) (hg : Glob w) (h0 : 0 ≤ c) (h1 : c < 8) (h2 : 1 ≤ n) (h3 : n ≤ 1099511627776) : Calls Tryd.prog 7 #[stepV k c n o X] w fun e w' => e = .returned (.bool true) ∧ Below w.heap.size w w' := by
  have hdo : ∀ W, Calls Tryd.prog 34 #[.pointer none, .int .i64 c, .int .i64 n, .agg #[.int .i64 o.kind, S o.key, S o.value, S o.old]] W fun e w' => e = .returned (.tuple #[.agg #[.int .i64 0, .string ⟨#[]⟩], .bool false, .int .i64 7]) ∧ Below W.heap.size W w' := fun W =>
    do_state (.pointer none) c n 0 o W h0 h1 h2 h3 (fun W' _ => status_nil W') (by omega)
  obtain ⟨T, hT⟩ : ∃ T, T = textS sh0 := ⟨_, rfl⟩
  have htn : ∀ W, Glob W → Calls Tryd.prog 35 #[.pointer none] W fun e w' => e = .returned (S T) ∧ Below W.heap.size W w' := fun W hW => by rw [hT]; exact text_nil W hW
  have hto : ∀ a W s, Own a W s sh0 → Glob W → Calls Tryd.prog 35 #[.pointer (some ⟨s, 0, none⟩)] W fun e w' => e = .returned (S T) ∧ Below W.heap.size W w' := fun a W s o hW => by rw [hT]; exact own_text o sh0_ok hW
  have HG := Lib.hid hg; have HDO := Lib.hid hdo; have HTN := Lib.hid htn; have HTO := Lib.hid hto
  have hb0 : Below w.heap.size w (boxS w k c n o X) := (Below.refl _ w).alloc (Nat.le_refl _) _
  have HB0 := Lib.hid hb0
  have row0 := RowV.new w 71 (cellsStep k c n o X)
  have d1 := row0.range 3 [.int .i64 o.kind, S o.key, S o.value, S o.old] (by intro j v h; rcases j with _ | _ | _ | _ | j <;> simp_all)
  have R0 := Lib.hid row0
  have HX : Hid (∀ W, Below (w.heap.size + 1) (boxS w k c n o X) W → W.cell? ⟨w.heap.size, 1, none⟩ = some (.int .i64 c) ∧ W.cell? ⟨w.heap.size, 2, none⟩ = some (.int .i64 n) ∧ W.cell? ⟨w.heap.size, 7, none⟩ = some (S X)) := Lib.hid (fun W hW => by
    have := row0.below hW (by omega)
    exact ⟨this.cell 1, this.cell 2, this.cell 7⟩)
  clear hg hdo htn hto hb0 hT row0
  unfold stepV
  go_enter Tryd.func7, Tryd.ntmps7
  go_wp2_with (first | (go_at_call 34; with_reducible refine (HDO.out _).mono ?_; rintro e w1 ⟨rfl, hb1⟩; have HB1 : Hid (Below (w.heap.size + 1) (boxS w k c n o X) (boxN w1)) := Lib.hid ((hb1.mono (by simp)).alloc (by have := hb1.size; simp at this; exact this) _); have HB2 : Hid (Below w.heap.size w (boxN w1)) := Lib.hid (HB0.out.trans (HB1.out.mono (by omega))); obtain ⟨x1, x2, x3⟩ := HX.out _ HB1.out; clear hb1) | (go_at_call 26; with_reducible refine (begin_nil _).mono ?_; rintro e w' ⟨rfl, rfl⟩) | (go_at_call 27; with_reducible refine (pull_nil _).mono ?_; rintro e w' ⟨rfl, rfl⟩) | (go_at_call 28; with_reducible refine (freeze_nil _).mono ?_; rintro e w' ⟨rfl, rfl⟩) | (go_at_call 29; with_reducible refine (drop_nil _).mono ?_; rintro e w' ⟨rfl, rfl⟩) | (go_at_call 30; with_reducible refine (install_nil _ _).mono ?_; rintro e w' ⟨rfl, rfl⟩) | (go_at_call 31; with_reducible refine (status_nil _).mono ?_; rintro e w' ⟨rfl, rfl⟩) | (go_at_call 33; with_reducible refine (content_nil _).mono ?_; rintro e w' ⟨rfl, rfl⟩) | (go_at_call 35; with_reducible refine (HTN.out _ (HG.out.next HB2.out)).mono ?_; rintro e w3 ⟨rfl, hb3⟩; have HB3 : Hid (Below w.heap.size w w3) := Lib.hid (HB2.out.trans (hb3.mono HB2.out.size)); clear hb3) | (go_at_call 23; with_reducible refine (own_new w3).mono ?_; rintro e w4 ⟨s, rfl, o4⟩; have O4 : Hid (Own w3 w4 s sh0) := Lib.hid o4; have HB4 : Hid (Below w.heap.size w w4) := Lib.hid (HB3.out.trans (o4.bl.mono HB3.out.size)); clear o4) | (go_at_call 35; with_reducible refine (HTO.out w3 w4 s O4.out (HG.out.next HB4.out)).mono ?_; rintro e w5 ⟨rfl, hb5⟩; have HB5 : Hid (Below w.heap.size w w5) := Lib.hid (HB4.out.trans (hb5.mono HB4.out.size)); clear hb5) | (go_at_call 24; with_reducible refine (serves_any w5).mono ?_; rintro e w6 ⟨rfl, hb6⟩; have HB6 : Hid (Below w.heap.size w w6) := Lib.hid (HB5.out.trans (hb6.mono HB5.out.size)); clear hb6))
  go_ret
  exact ⟨rfl, HB6.out⟩
theorem nil_any (k c n : Int) (o : OpT) (X : Bytes) (w : World) (hg : Glob w) : Calls Tryd.prog 7 #[stepV k c n o X] w fun e w' => e = .returned (.bool true) ∧ Below w.heap.size w w' := by
  by_cases h0 : c < 0
  · exact nil_c1 k c n o X w hg h0
  · by_cases h1 : 8 ≤ c
    · exact nil_c2 k c n o X w hg h0 h1
    · by_cases h2 : n < 1
      · exact nil_c3 k c n o X w hg (by omega) (by omega) h2
      · by_cases h3 : ¬ n ≤ 1099511627776
        · exact nil_c4 k c n o X w hg (by omega) (by omega) (by omega) h3
        · exact nil_c5 k c n o X w hg (by omega) (by omega) (by omega) (by omega)
end Go.Proofs.YtocgnkenlfdffaaDoor
