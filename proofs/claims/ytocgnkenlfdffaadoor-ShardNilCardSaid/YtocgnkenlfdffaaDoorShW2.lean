/- package shard: Do, where it does nothing. -/
import Derived.Test.YtocgnkenlfdffaaDoorShW1
namespace Go.Proofs.YtocgnkenlfdffaaDoor
open Go Go.RowKit Go.Wap
def ansV (c : Cl) : Value := .agg #[.int .i64 c.e, S c.v]
theorem results_cell_tmp2 {fn : Func} {p u x : Tmp} {ty : TypeId} (h : fn.results = #[.cell p ty, .tmp u, .tmp x]) (tmps : Array Value) (P : Program) (w : World) :
    (results fn tmps).run P w =
      ((asAddr (tmps.getD p undef)).run P w).andThen fun a w₁ => ((loadVar ty a).run P w₁).andThen fun v w₂ => .ok (.tuple #[v, tmps.getD u undef, tmps.getD x undef]) w₂ := by
  simp only [results, h]
  simp [Sem.run_bind, Result.andThen]
theorem results_row_tmp2 {fn : Func} {p u x : Tmp} {ty : TypeId} (h : fn.results = #[.cell p ty, .tmp u, .tmp x]) {tmps : Array Value} {P : Program} {w : World} {g : Nat} {t : TypeId} {cs : Array Value} (d : TypeDesc)
    (hp : tmps.getD p undef = .pointer (some ⟨g, 0, none⟩)) (hg : RowV w g t cs)
    (hu : P.underlying ty = some d) (hd : aggT d = true) (hi : (P.info? ty).map (·.size) = some cs.size) :
    (results fn tmps).run P w = .ok (.tuple #[.agg cs, tmps.getD u undef, tmps.getD x undef]) w := by
  have a1 := run_loadVar_row (P := P) w g t ty cs (0, 0) d hg hu (by cases d <;> simp_all [aggT]) hi
  rw [results_cell_tmp2 h, hp]
  simp only [asAddr, Sem.run_pure, Result.andThen]
  rw [a1]
theorem ansInfo : (Tryd.prog.info? 74).map (·.size) = some 2 := by kernel_rfl
abbrev boxO (w : World) (o : OpT) : World := w.alloc (.cells #[.int .i64 o.kind, S o.key, S o.value, S o.old] 69)
abbrev boxA (w : World) (o : OpT) (a : Array Value) : World := (boxO w o).alloc (.cells a 74)
theorem boxA_row (w : World) (o : OpT) (a : Array Value) : RowV (boxA w o a) (w.heap.size + 1) 74 a := by
  have := RowV.new (boxO w o) 74 a
  rw [size_alloc'] at this; exact this
theorem boxA_below (w : World) (o : OpT) (a : Array Value) : Below w.heap.size w (boxA w o a) := ((Below.refl _ w).alloc (Nat.le_refl _) _).alloc (by simp) _
theorem do_arg (rv : Value) (c n : Int) (o : OpT) (w : World) (hb : c < 0 ∨ 8 ≤ c ∨ n < 1 ∨ Big < n) : Calls Tryd.prog 34 #[rv, .int .i64 c, .int .i64 n, opV o] w fun e w' =>
    e = .returned (.tuple #[ansV cl0, .bool false, .int .i64 1]) ∧ Below w.heap.size w w' := by
  unfold Big at hb
  unfold opV
  by_cases h1 : c < 0
  · clear hb
    go_enter Tryd.func34, Tryd.ntmps34
    go_wp2_with fail
    refine bodyPost_ret (results_row_tmp2 rfl _ rfl (boxA_row w o #[.int .i64 0, .string ⟨#[]⟩]) Tryd.underlying74 rfl ansInfo) rfl ⟨rfl, boxA_below w o _⟩
  · by_cases h2 : 8 ≤ c
    · clear hb
      go_enter Tryd.func34, Tryd.ntmps34
      go_wp2_with fail
      refine bodyPost_ret (results_row_tmp2 rfl _ rfl (boxA_row w o #[.int .i64 0, .string ⟨#[]⟩]) Tryd.underlying74 rfl ansInfo) rfl ⟨rfl, boxA_below w o _⟩
    · by_cases h3 : n < 1
      · clear hb
        go_enter Tryd.func34, Tryd.ntmps34
        go_wp2_with fail
        refine bodyPost_ret (results_row_tmp2 rfl _ rfl (boxA_row w o #[.int .i64 0, .string ⟨#[]⟩]) Tryd.underlying74 rfl ansInfo) rfl ⟨rfl, boxA_below w o _⟩
      · have h4 : 1099511627776 < n := by omega
        clear hb
        go_enter Tryd.func34, Tryd.ntmps34
        go_wp2_with fail
        refine bodyPost_ret (results_row_tmp2 rfl _ rfl (boxA_row w o #[.int .i64 0, .string ⟨#[]⟩]) Tryd.underlying74 rfl ansInfo) rfl ⟨rfl, boxA_below w o _⟩
theorem do_state (rv : Value) (c n x : Int) (o : OpT) (w : World) (h1 : 0 ≤ c) (h2 : c < 8) (h3 : 1 ≤ n) (h4 : n ≤ Big) (hst : ∀ W, Below w.heap.size w W → Calls Tryd.prog 31 #[rv] W fun e w' => e = .returned (.int .i64 x) ∧ W = w') (hx : x ≠ 1) :
    Calls Tryd.prog 34 #[rv, .int .i64 c, .int .i64 n, opV o] w fun e w' => e = .returned (.tuple #[ansV cl0, .bool false, .int .i64 7]) ∧ Below w.heap.size w w' := by
  unfold Big at h4
  unfold opV
  have HS := Lib.hid hst
  have hx1 : (x != 1) = true := by simpa using hx
  clear hst
  go_enter Tryd.func34, Tryd.ntmps34
  go_wp2_with (go_at_call 31; refine (HS.out _ (boxA_below w o #[.int .i64 0, .string ⟨#[]⟩])).mono ?_; rintro e w' ⟨rfl, rfl⟩)
  refine bodyPost_ret (results_row_tmp2 rfl _ rfl (boxA_row w o #[.int .i64 0, .string ⟨#[]⟩]) Tryd.underlying74 rfl ansInfo) rfl ⟨rfl, boxA_below w o _⟩
/-- a client's cells, by its place -/
theorem cellsC_at (l : List Cl) (i : Nat) (h : i < l.length) : (cellsC l)[i * 3]? = some (.int .i64 l[i].n) ∧ (cellsC l)[i * 3 + 1]? = some (.int .i64 l[i].e) ∧ (cellsC l)[i * 3 + 2]? = some (S l[i].v) := by
  unfold cellsC
  induction l generalizing i with
  | nil => simp at h
  | cons c l ih =>
    cases i with
    | zero => simp
    | succ i =>
      have := ih i (by simpa using h)
      rw [show (i + 1) * 3 = i * 3 + 3 by omega]
      simpa using this
theorem ShardAt.client {w : World} {s p : Nat} {v : Value} {h : Sh} (a : ShardAt w s p v h) (i : Nat) (hi : i < h.cl.length) :
    w.cell? ⟨s, 2 + i * 3, none⟩ = some (.int .i64 h.cl[i].n) ∧ w.cell? ⟨s, 2 + i * 3 + 1, none⟩ = some (.int .i64 h.cl[i].e) ∧ w.cell? ⟨s, 2 + i * 3 + 1 + 1, none⟩ = some (S h.cl[i].v) := by
  obtain ⟨h0, h1, h2⟩ := cellsC_at h.cl i hi
  refine ⟨?_, ?_, ?_⟩ <;> rw [a.row.cell] <;> unfold cellsS <;> rw [List.getElem?_toArray]
  · rw [show 2 + i * 3 = i * 3 + 1 + 1 by omega, List.getElem?_cons_succ, List.getElem?_cons_succ]; exact h0
  · rw [show 2 + i * 3 + 1 = (i * 3 + 1) + 1 + 1 by omega, List.getElem?_cons_succ, List.getElem?_cons_succ]; exact h1
  · rw [show 2 + i * 3 + 1 + 1 = (i * 3 + 2) + 1 + 1 by omega, List.getElem?_cons_succ, List.getElem?_cons_succ]; exact h2
set_option maxRecDepth 100000 in
theorem do_low (s p : Nat) (v : Value) (h : Sh) (w : World) (a : ShardAt w s p v h) (ho : ShOk h) (i : Nat) (n : Int) (o : OpT) (hi : i < h.cl.length) (h3 : 1 ≤ n) (h4 : n ≤ Big) (hs : h.st = 1) (hn : n < h.cl[i].n) :
    Calls Tryd.prog 34 #[.pointer (some ⟨s, 0, none⟩), .int .i64 (i : Int), .int .i64 n, opV o] w fun e w' => e = .returned (.tuple #[ansV cl0, .bool false, .int .i64 6]) ∧ Below w.heap.size w w' := by
  unfold Big at h4
  have h8 := ho.eight
  have hi8 : i < 8 := by omega
  have a1 := a.below (boxA_below w o #[.int .i64 0, .string ⟨#[]⟩])
  obtain ⟨c0, c1, c2⟩ := a1.client i hi
  have hst : ∀ W, Below w.heap.size w W → Calls Tryd.prog 31 #[.pointer (some ⟨s, 0, none⟩)] W fun e w' => e = .returned (.int .i64 1) ∧ W = w' := fun W hW => by
    have := status_any s p v h W (a.below hW)
    rw [hs] at this; exact this
  obtain ⟨m, hm⟩ : ∃ m, m = h.cl[i].n := ⟨_, rfl⟩
  rw [← hm] at hn c0
  have HS := Lib.hid hst
  unfold opV
  clear a1 hst hm a ho c1 c2 h8
  go_enter Tryd.func34, Tryd.ntmps34
  go_wp2_with (go_at_call 31; refine (HS.out _ (boxA_below w o #[.int .i64 0, .string ⟨#[]⟩])).mono ?_; rintro e w' ⟨rfl, rfl⟩)
  refine bodyPost_ret (results_row_tmp2 rfl _ rfl (boxA_row w o #[.int .i64 0, .string ⟨#[]⟩]) Tryd.underlying74 rfl ansInfo) rfl ⟨rfl, boxA_below w o _⟩
set_option maxRecDepth 100000 in
theorem do_same (s p : Nat) (v : Value) (h : Sh) (w : World) (a : ShardAt w s p v h) (ho : ShOk h) (i : Nat) (n : Int) (o : OpT) (hi : i < h.cl.length) (h3 : 1 ≤ n) (h4 : n ≤ Big) (hs : h.st = 1) (hn : n = h.cl[i].n) :
    Calls Tryd.prog 34 #[.pointer (some ⟨s, 0, none⟩), .int .i64 (i : Int), .int .i64 n, opV o] w fun e w' => e = .returned (.tuple #[ansV h.cl[i], .bool false, .int .i64 0]) ∧ Below w.heap.size w w' := by
  unfold Big at h4
  have h8 := ho.eight
  have hi8 : i < 8 := by omega
  have a1 := a.below (boxA_below w o #[.int .i64 0, .string ⟨#[]⟩])
  obtain ⟨c0, c1, c2⟩ := a1.client i hi
  have hst : ∀ W, Below w.heap.size w W → Calls Tryd.prog 31 #[.pointer (some ⟨s, 0, none⟩)] W fun e w' => e = .returned (.int .i64 1) ∧ W = w' := fun W hW => by
    have := status_any s p v h W (a.below hW)
    rw [hs] at this; exact this
  rw [← hn] at c0
  unfold ansV
  generalize h.cl[i].e = e0 at c1 ⊢
  generalize h.cl[i].v = v0 at c2 ⊢
  have HS := Lib.hid hst
  unfold opV
  clear a1 hst a ho h8 hn
  go_enter Tryd.func34, Tryd.ntmps34
  go_wp2_with (go_at_call 31; refine (HS.out _ (boxA_below w o #[.int .i64 0, .string ⟨#[]⟩])).mono ?_; rintro e w' ⟨rfl, rfl⟩)
  refine bodyPost_ret (results_row_tmp2 rfl _ rfl (boxA_row w o #[.int .i64 e0, S v0]) Tryd.underlying74 rfl ansInfo) rfl ⟨rfl, boxA_below w o _⟩
end Go.Proofs.YtocgnkenlfdffaaDoor
