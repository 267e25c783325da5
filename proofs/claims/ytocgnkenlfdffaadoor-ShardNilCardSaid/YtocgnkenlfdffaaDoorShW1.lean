/- package shard: a shard in memory; New, Status, the turns. -/
import Derived.Test.YtocgnkenlfdffaaDoorTabW9
namespace Go.Proofs.YtocgnkenlfdffaaDoor
open Go Go.RowKit Go.Wap
/-- a client's cells -/
def cellsC (l : List Cl) : List Value := l.flatMap fun c => [.int .i64 c.n, .int .i64 c.e, S c.v]
def cellsS (p : Nat) (h : Sh) : Array Value := (Value.int .i64 h.st :: .pointer (some ⟨p, 0, none⟩) :: cellsC h.cl).toArray
theorem cellsC_length (l : List Cl) : (cellsC l).length = 3 * l.length := by
  unfold cellsC; induction l with
  | nil => rfl
  | cons c l ih => rw [List.flatMap_cons, List.length_append, ih]; simp; omega
/-- A SHARD IN MEMORY. -/
structure ShardAt (w : World) (s p : Nat) (v : Value) (h : Sh) : Prop where
  row : RowV w s 124 (cellsS p h)
  tab : TableAt w p v h.tab
  sp : s ≠ p
  sv : v.ownBlock ≠ some s
theorem ShardAt.lt {w : World} {s p : Nat} {v : Value} {h : Sh} (a : ShardAt w s p v h) : s < w.heap.size ∧ p < w.heap.size ∧ ∀ g, v.ownBlock = some g → g < w.heap.size := ⟨a.row.lt, a.tab.lt, fun _ hg => a.tab.own.lt hg⟩
/-- the blocks of a shard -/
def Foot (s p : Nat) (v : Value) (b : Nat) : Prop := b = s ∨ b = p ∨ v.ownBlock = some b
theorem ShardAt.only {w w' : World} {F : Nat → Prop} {s p : Nat} {v : Value} {h : Sh} (a : ShardAt w s p v h) (ho : Only F w w') (hf : ∀ b, Foot s p v b → ¬ F b) : ShardAt w' s p v h :=
  ⟨a.row.only ho (hf s (.inl rfl)), a.tab.only ho (hf p (.inr (.inl rfl))) (fun g hg => hf g (.inr (.inr hg))), a.sp, a.sv⟩
theorem ShardAt.below {w w' : World} {s p : Nat} {v : Value} {h : Sh} (a : ShardAt w s p v h) (hb : Below w.heap.size w w') : ShardAt w' s p v h :=
  a.only (Only.of_below hb) (fun b hf => by
    obtain ⟨h1, h2, h3⟩ := a.lt
    rcases hf with rfl | rfl | hf
    · omega
    · omega
    · have := h3 b hf; omega)
/-- a shard behind a call: the same place; its table where it was, or in new memory -/
structure Turned (w w' : World) (s p : Nat) (v : Value) (h' : Sh) : Prop where
  ex : ∃ p' v', ShardAt w' s p' v' h' ∧ ∀ b, Foot s p' v' b → Foot s p v b ∨ w.heap.size ≤ b
  only : Only (Foot s p v) w w'
theorem Turned.ofBelow {w w1 w' : World} {s p : Nat} {v : Value} {h' : Sh} (hb : Below w.heap.size w w1) (t : Turned w1 w' s p v h') : Turned w w' s p v h' := by
  obtain ⟨p', v', ha, hf⟩ := t.ex
  exact ⟨⟨p', v', ha, fun b hb' => (hf b hb').imp id (fun h => Nat.le_trans hb.size h)⟩, ⟨t.only.os.trans hb.os, t.only.tape.trans hb.tape, t.only.output.trans hb.output, Nat.le_trans hb.size t.only.size, fun k hk hs => (t.only.block k (Nat.lt_of_lt_of_le hk hb.size) hs).trans (hb.block k hk)⟩⟩
theorem Turned.same {w w' : World} {s p : Nat} {v : Value} {h : Sh} (a : ShardAt w s p v h) (hb : Below w.heap.size w w') : Turned w w' s p v h :=
  Turned.ofBelow hb ⟨⟨p, v, a.below hb, fun _ h => .inl h⟩, Only.refl _ _⟩
theorem shnew_any (w : World) : Calls Tryd.prog 23 #[] w fun e w' => e = .returned (.pointer (some ⟨w.heap.size + 1, 0, none⟩)) ∧ ShardAt w' (w.heap.size + 1) w.heap.size (.slice none 0 0) sh0 ∧ Below w.heap.size w w' := by
  go_enter Tryd.func23, Tryd.ntmps23
  go_wp2_with (go_at_call 57; refine (tnew_any _).mono ?_; rintro e w' ⟨rfl, rfl⟩)
  go_ret
  have hr := RowV.new (w.alloc (.cells #[.slice none 0 0] 153)) 124 (cellsS w.heap.size sh0)
  rw [size_alloc'] at hr
  have ht := (tableAt_new w).below ((Below.refl _ _).alloc (Nat.le_refl _) (.cells (cellsS w.heap.size sh0) 124))
  exact ⟨rfl, ⟨hr, ht, by omega, by simp [Value.ownBlock]⟩, ((Below.refl _ w).alloc (Nat.le_refl _) _).alloc (by simp) _⟩
theorem status_nil (w : World) : Calls Tryd.prog 31 #[.pointer none] w fun e w' => e = .returned (.int .i64 0) ∧ w = w' := by
  go_enter Tryd.func31, Tryd.ntmps31
  go_wp2_with fail
  go_ret
  exact ⟨rfl, rfl⟩
theorem ShardAt.st {w : World} {s p : Nat} {v : Value} {h : Sh} (a : ShardAt w s p v h) : w.cell? ⟨s, 0, none⟩ = some (.int .i64 h.st) := by rw [a.row.cell]; rfl
theorem ShardAt.pt {w : World} {s p : Nat} {v : Value} {h : Sh} (a : ShardAt w s p v h) : w.cell? ⟨s, 1, none⟩ = some (.pointer (some ⟨p, 0, none⟩)) := by rw [a.row.cell]; rfl
theorem status_any (s p : Nat) (v : Value) (h : Sh) (w : World) (a : ShardAt w s p v h) : Calls Tryd.prog 31 #[.pointer (some ⟨s, 0, none⟩)] w fun e w' => e = .returned (.int .i64 h.st) ∧ w = w' := by
  have c0 := a.st
  clear a
  go_enter Tryd.func31, Tryd.ntmps31
  go_wp2_with fail
  go_ret
  exact ⟨rfl, rfl⟩
/-- a turn -/
def turnS (h : Sh) (x y : Int) : Sh × Int := if h.st = x then ({ h with st := y }, 0) else (h, 7)
theorem turn_nil (a b : Int) (w : World) : Calls Tryd.prog 59 #[.pointer none, .int .i64 a, .int .i64 b] w fun e w' => e = .returned (.int .i64 7) ∧ w = w' := by
  go_enter Tryd.func59, Tryd.ntmps59
  go_wp2_with fail
  go_ret
  exact ⟨rfl, rfl⟩
theorem turn_any (s p : Nat) (v : Value) (h : Sh) (w : World) (a : ShardAt w s p v h) (x y : Int) : Calls Tryd.prog 59 #[.pointer (some ⟨s, 0, none⟩), .int .i64 x, .int .i64 y] w fun e w' =>
    e = .returned (.int .i64 (turnS h x y).2) ∧ ShardAt w' s p v (turnS h x y).1 ∧ Only (fun b => b = s) w w' := by
  have c0 := a.st
  have hf := a.row.free 0
  have HA := Lib.hid a
  by_cases hx : h.st = x
  · have hq : (h.st != x) = false := by simpa using hx
    have HX := Lib.hid hx
    clear a hx
    go_enter Tryd.func59, Tryd.ntmps59
    go_wp2_with fail
    go_ret
    have e : turnS h x y = ({ h with st := y }, 0) := by unfold turnS; rw [if_pos HX.out]
    rw [e]
    refine ⟨rfl, ⟨HA.out.row.setCell 0 _, HA.out.tab.only ((Only.refl (fun b => b = s) w).setCell (p := ⟨s, 0, none⟩) (.inl rfl) _) (fun h => HA.out.sp h.symm) (fun g hg h => HA.out.sv (by rw [hg, h])), HA.out.sp, HA.out.sv⟩, (Only.refl (fun b => b = s) w).setCell (p := ⟨s, 0, none⟩) (.inl rfl) _⟩
  · have hq : (h.st != x) = true := by simpa using hx
    have HX := Lib.hid hx
    clear a hx
    go_enter Tryd.func59, Tryd.ntmps59
    go_wp2_with fail
    go_ret
    have e : turnS h x y = (h, 7) := by unfold turnS; rw [if_neg HX.out]
    rw [e]
    exact ⟨rfl, HA.out, Only.refl _ w⟩
theorem Turned.turn {w w' : World} {s p : Nat} {v : Value} {h' : Sh} (a : ShardAt w' s p v h') (ho : Only (fun b => b = s) w w') : Turned w w' s p v h' :=
  ⟨⟨p, v, a, fun _ h => .inl h⟩, ho.mono (fun _ _ h => .inl h)⟩
theorem begin_any (s p : Nat) (v : Value) (h : Sh) (w : World) (a : ShardAt w s p v h) : Calls Tryd.prog 26 #[.pointer (some ⟨s, 0, none⟩)] w fun e w' =>
    e = .returned (.int .i64 (turnS h 0 1).2) ∧ Turned w w' s p v (turnS h 0 1).1 := by
  have HA := Lib.hid a
  clear a
  go_enter Tryd.func26, Tryd.ntmps26
  go_wp2_with (go_at_call 59; refine (turn_any s p v h w HA.out 0 1).mono ?_; rintro e w1 ⟨rfl, h1, h2⟩)
  go_ret
  exact ⟨rfl, Turned.turn h1 h2⟩
theorem pull_any (s p : Nat) (v : Value) (h : Sh) (w : World) (a : ShardAt w s p v h) : Calls Tryd.prog 27 #[.pointer (some ⟨s, 0, none⟩)] w fun e w' =>
    e = .returned (.int .i64 (turnS h 0 3).2) ∧ Turned w w' s p v (turnS h 0 3).1 := by
  have HA := Lib.hid a
  clear a
  go_enter Tryd.func27, Tryd.ntmps27
  go_wp2_with (go_at_call 59; refine (turn_any s p v h w HA.out 0 3).mono ?_; rintro e w1 ⟨rfl, h1, h2⟩)
  go_ret
  exact ⟨rfl, Turned.turn h1 h2⟩
theorem freeze_any (s p : Nat) (v : Value) (h : Sh) (w : World) (a : ShardAt w s p v h) : Calls Tryd.prog 28 #[.pointer (some ⟨s, 0, none⟩)] w fun e w' =>
    e = .returned (.int .i64 (turnS h 1 2).2) ∧ Turned w w' s p v (turnS h 1 2).1 := by
  have HA := Lib.hid a
  clear a
  go_enter Tryd.func28, Tryd.ntmps28
  go_wp2_with (go_at_call 59; refine (turn_any s p v h w HA.out 1 2).mono ?_; rintro e w1 ⟨rfl, h1, h2⟩)
  go_ret
  exact ⟨rfl, Turned.turn h1 h2⟩
def dropS (h : Sh) : Sh × Int := if h.st = 2 then (sh0, 0) else (h, 7)
theorem shInfo : (Tryd.prog.info? 124).map (·.size) = some 26 := by kernel_rfl
theorem cellsS_size (p : Nat) (h : Sh) (h8 : h.cl.length = 8) : (cellsS p h).size = 26 := by unfold cellsS; simp [cellsC_length, h8]
theorem cellsS_one (p : Nat) (h : Sh) : ∀ v ∈ (cellsS p h).toList, v.oneCell' = true := by
  intro v hv
  unfold cellsS cellsC at hv
  simp only [List.mem_cons, List.mem_flatMap] at hv
  rcases hv with rfl | rfl | ⟨c, _, hv⟩
  · rfl
  · rfl
  · simp at hv
    rcases hv with rfl | rfl | rfl <;> rfl
theorem drop_no (s p : Nat) (v : Value) (h : Sh) (w : World) (a : ShardAt w s p v h) (hs : h.st ≠ 2) : Calls Tryd.prog 29 #[.pointer (some ⟨s, 0, none⟩)] w fun e w' =>
    e = .returned (.int .i64 7) ∧ Turned w w' s p v h := by
  have HA := Lib.hid a
  have e : turnS h 2 0 = (h, 7) := by unfold turnS; rw [if_neg hs]
  have HT : Hid (Calls Tryd.prog 59 #[.pointer (some ⟨s, 0, none⟩), .int .i64 2, .int .i64 0] w fun e w' => e = .returned (.int .i64 7) ∧ ShardAt w' s p v h ∧ Only (fun b => b = s) w w') := Lib.hid (by
    have := turn_any s p v h w a 2 0
    rw [e] at this; exact this)
  clear a hs e
  go_enter Tryd.func29, Tryd.ntmps29
  go_wp2_with (go_at_call 59; refine HT.out.mono ?_; rintro e w1 ⟨rfl, h1, h2⟩)
  go_ret
  exact ⟨rfl, Turned.turn h1 h2⟩
set_option maxRecDepth 100000 in
theorem drop_ok (s p : Nat) (v : Value) (h : Sh) (w : World) (a : ShardAt w s p v h) (h8 : h.cl.length = 8) (hs : h.st = 2) : Calls Tryd.prog 29 #[.pointer (some ⟨s, 0, none⟩)] w fun e w' =>
    e = .returned (.int .i64 0) ∧ Turned w w' s p v sh0 := by
  have HA := Lib.hid a
  have e : turnS h 2 0 = ({ h with st := 0 }, 0) := by unfold turnS; rw [if_pos hs]
  have HT : Hid (Calls Tryd.prog 59 #[.pointer (some ⟨s, 0, none⟩), .int .i64 2, .int .i64 0] w fun e w' => e = .returned (.int .i64 0) ∧ ShardAt w' s p v { h with st := 0 } ∧ Only (fun b => b = s) w w') := Lib.hid (by
    have := turn_any s p v h w a 2 0
    rw [e] at this; exact this)
  have HI := Lib.hid shInfo
  have H8 := Lib.hid h8
  clear a hs e h8
  go_enter Tryd.func29, Tryd.ntmps29
  go_wp2_with (first | (go_at_call 59; refine HT.out.mono ?_; rintro e w1 ⟨rfl, h1, h2⟩; have H1 := Lib.hid h1; have H2 := Lib.hid h2; clear h1 h2) | (go_at_call 23; refine (shnew_any _).mono ?_; rintro e w2 ⟨rfl, h3, hb3⟩; have H3 := Lib.hid h3; have H4 := Lib.hid (H1.out.below hb3); have HB3 := Lib.hid hb3; have HTH := Lib.hid (H4.out.row.there 0 26 (by rw [cellsS_size p { h with st := 0 } H8.out]; exact Nat.le_refl _)); clear h3 hb3) | (refine wpList_load_mid rfl 124 (.tmp 10) rfl (w1.heap.size + 1) 0 rfl (cellsS w1.heap.size sh0).toList _ (H3.out.row.range 0 _ (fun j v hv => by simpa using hv)) Tryd.underlying124 rfl (by rw [Array.length_toList, cellsS_size _ _ rfl]; exact HI.out) ?_) | (refine wpList_store_mid rfl 124 (.tmp 12) (.tmp 11) rfl s 0 (cellsS w1.heap.size sh0) rfl rfl (by rw [cellsS_size _ _ rfl]; exact HTH.out) (by rw [cellsS_size _ _ rfl]; exact HI.out) (Array.all_eq_true_iff_forall_mem.2 (fun v hv => cellsS_one _ _ v (by simpa using hv))) ?_))
  go_ret
  have h1 := H1.out.lt
  have hsz := HB3.out.size
  have hO : Only (fun b => b = s) w2 (w2.setCells s 0 (cellsS w1.heap.size sh0).toList) := Only.setCells _ _ (Only.refl _ _) rfl
  have hrow := H4.out.row.setAll (ds := cellsS w1.heap.size sh0) (by rw [cellsS_size p { h with st := 0 } H8.out, cellsS_size _ _ rfl])
  have htab := H3.out.tab.only hO (fun e => by omega) (fun g hg => by cases hg)
  refine ⟨rfl, ⟨w1.heap.size, .slice none 0 0, ⟨hrow, htab, by omega, by simp [Value.ownBlock]⟩, ?_⟩, ?_⟩
  · intro b hb
    rcases hb with rfl | rfl | hb
    · exact .inl (.inl rfl)
    · exact .inr H2.out.size
    · cases hb
  · refine ((H2.out.mono (T := Foot s p v) (fun _ _ h => .inl h)).addBelow HB3.out H2.out.size).trans (hO.mono (fun _ _ h => .inl h))
theorem drop_any (s p : Nat) (v : Value) (h : Sh) (w : World) (a : ShardAt w s p v h) (h8 : h.cl.length = 8) : Calls Tryd.prog 29 #[.pointer (some ⟨s, 0, none⟩)] w fun e w' =>
    e = .returned (.int .i64 (dropS h).2) ∧ Turned w w' s p v (dropS h).1 := by
  unfold dropS
  by_cases hs : h.st = 2
  · rw [if_pos hs]; exact drop_ok s p v h w a h8 hs
  · rw [if_neg hs]; exact drop_no s p v h w a hs
end Go.Proofs.YtocgnkenlfdffaaDoor
