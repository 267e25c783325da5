/- nest.Unpack: the list that a text is. -/
import Derived.Test.YtocgnkenlfdffaaDoorNest3
import Derived.RangeFuncBox
import Derived.Laws.ResultCell
namespace Go.Wap
theorem seqOf_spec : ∀ (n : Nat) (s : Bytes), s.length ≤ n → (seqOf s).length ≤ s.length ∧ ((∀ p ∈ seqOf s, p.2 = 0) → unpack s = some ((seqOf s).map (·.1))) ∧ (∀ p ∈ seqOf s, p.2 ≠ 0 → p.2 = 4 ∧ unpack s = none) := by
  intro n
  induction n with
  | zero =>
    intro s hs
    have : s = [] := List.length_eq_zero_iff.1 (by omega)
    subst this; rw [seqOf_nil]; simp [unpack_nil]
  | succ n ih =>
    intro s hs
    by_cases h0 : s = []
    · subst h0; rw [seqOf_nil]; simp [unpack_nil]
    · have hp : 0 < s.length := by cases s with | nil => exact absurd rfl h0 | cons a b => simp
      cases ht : take1 s with
      | none =>
        rw [seqOf_bad ht h0]
        refine ⟨by simp; omega, fun h => ?_, fun p hp h => ?_⟩
        · have := h _ (List.mem_singleton.2 rfl); simp at this
        · rw [List.mem_singleton] at hp; subst hp; exact ⟨rfl, unpack_none h0 ht⟩
      | some p =>
        obtain ⟨t, r⟩ := p
        have hl := take1_len ht
        obtain ⟨h1, h2, h3⟩ := ih r (by omega)
        rw [seqOf_step ht h0, unpack_step ht]
        refine ⟨by simp; omega, fun h => ?_, fun p hp h => ?_⟩
        · rw [h2 (fun p hp => h p (List.mem_cons_of_mem _ hp))]; simp
        · rcases List.mem_cons.1 hp with rfl | hp
          · exact absurd rfl h
          · obtain ⟨h4, h5⟩ := h3 p hp h
            exact ⟨h4, by rw [h5]; rfl⟩
end Go.Wap
namespace Go.Proofs.YtocgnkenlfdffaaDoor
open Go Go.RowKit Go.Wap
attribute [local go_sem] Oper.semAt_some
/-- 'out = append(out, ..)' where the slice's blocks lie behind `base`, the variable's box ahead of it -/
theorem appended_only {W w1 : World} {base B : Nat} {t e : TypeId} {size : Nat} {v v' : Value} {k m : Nat} {xs ys : List Value} {tmp : Obj}
    (hv : Boxed W B t v) (hB : B < base) (hrow : W.ownsRow base e size v k xs)
    (hown' : w1.ownsRow base e size v' m ys) (hgrow : (W.alloc tmp).grownBy w1 v.ownBlock) :
    Boxed w1 B t v ∧ Boxed (w1.setCell ⟨B, 0, none⟩ v') B t v' ∧ (w1.setCell ⟨B, 0, none⟩ v').ownsRow base e size v' m ys ∧ KeepsOthers W (w1.setCell ⟨B, 0, none⟩ v') ∧ Only (fun b => b = B ∨ base ≤ b) W (w1.setCell ⟨B, 0, none⟩ v') := by
  have hn : some B ≠ v.ownBlock := fun e' => by have := (hrow.lt B e'.symm).1; omega
  have hn' : some B ≠ v'.ownBlock := fun e' => by have := (hown'.lt B e'.symm).1; omega
  have hv1 : Boxed w1 B t v := (hv.alloc tmp).kept hgrow hn
  refine ⟨hv1, hv1.set v', hown'.kept (grownBy_setCell' w1 B v') (.inr hn'.symm), ?_, ?_⟩
  · refine ((KeepsOthers.alloc W tmp).trans (KeepsOthers.of_grownBy hgrow fun j o ej hj => ?_)).trans (KeepsOthers.setCell _ _ _)
    rcases (hrow.alloc tmp).2 with ⟨rfl, _⟩ | ⟨g, cap, cur, rfl, _, hgb, _⟩
    · simp [Value.ownBlock] at ej
    · obtain rfl : g = j := by simpa [Value.ownBlock] using ej
      rw [hgb] at hj; cases hj; rfl
  · exact ((((Only.refl _ W).alloc tmp).grown hgrow fun k ek => .inl (.inr (hrow.lt k ek).1)).setCell (p := ⟨B, 0, none⟩) (.inl (.inl rfl)) v')
theorem stepB_others {B : Nat} : ∀ A C, StepB B A C → KeepsOthers A C := by
  rintro A C (h | ⟨v, rfl⟩)
  · exact ⟨h.size, fun k o hk _ => (h.block k (Array.getElem?_eq_some_iff.1 hk).1).trans hk⟩
  · exact KeepsOthers.setCell _ _ _
theorem strInfo : (Tryd.prog.info? 9).map (fun i => (i.zero, i.size, i.bytes)) = some (some (.string ⟨#[]⟩), 1, 16) := by kernel_rfl
/-- what stays the same while the loop goes on -/
structure Unp (n : Nat) (w W : World) (v : Value) (e : Int) (o : Value) : Prop where
  r : Boxed W n 89 v
  e : Boxed W (n + 1) 27 (.int .i64 e)
  o : Boxed W (n + 2) 89 o
  b : Below n w W
theorem Unp.grown {n : Nat} {w W W' : World} {v o : Value} {e : Int} {row : Option Nat} (h : Unp n w W v e o) (hn : n ≤ w.heap.size) (hg : W.grownBy W' row) (hr : ∀ k, row = some k → n + 3 ≤ k) : Unp n w W' v e o :=
  ⟨h.r.kept hg (fun e => by have := hr _ e.symm; omega), h.e.kept hg (fun e => by have := hr _ e.symm; omega), h.o.kept hg (fun e => by have := hr _ e.symm; omega), h.b.grown hg (Nat.le_trans hn h.b.size) (fun k ek => by have := hr k ek; omega)⟩
def Inv (n : Nat) (w : World) (pre : List (Bytes × Int)) (W : World) : Prop :=
  (∀ p ∈ pre, p.2 = 0) ∧ n + 4 ≤ W.heap.size ∧ ∃ o, Unp n w W (.slice none 0 0) 0 o ∧ W.ownsRow (n + 4) 9 1 o pre.length (pre.map fun p => S p.1)
def Inx (n : Nat) (w : World) (pre : List (Bytes × Int)) (W : World) : Prop :=
  (∃ p ∈ pre, p.2 ≠ 0 ∧ ∃ o, Unp n w W (.slice none 0 0) p.2 o)
theorem Inv.books {n : Nat} {w : World} (hn : n = w.heap.size) (pre : List (Bytes × Int)) : Books (n + 4) (Inv n w pre) :=
  ⟨fun W l o o' hl hlo hc ⟨h1, h2, ov, h3, h4⟩ => ⟨h1, by simpa using h2, ov, h3.grown (by omega) (grownBy_putObj' W l o') (fun k e => by cases e; omega), ownsRow_putObj h4 o' hlo hc⟩,
   fun W o ⟨h1, h2, ov, h3, h4⟩ => ⟨h1, by rw [World.size_alloc]; omega, ov, h3.grown (by omega) (World.grownBy_alloc W o none) (fun k e => by cases e), h4.alloc o⟩⟩
theorem Inx.books {n : Nat} {w : World} (hn : n = w.heap.size) (pre : List (Bytes × Int)) : Books (n + 4) (Inx n w pre) :=
  ⟨fun W l o o' hl _ _ ⟨p, hp, h2, ov, h3⟩ => ⟨p, hp, h2, ov, h3.grown (by omega) (grownBy_putObj' W l o') (fun k e => by cases e; omega)⟩,
   fun W o ⟨p, hp, h2, ov, h3⟩ => ⟨p, hp, h2, ov, h3.grown (by omega) (World.grownBy_alloc W o none) (fun k e => by cases e)⟩⟩
theorem grownBy_below {A C : World} (h : Below A.heap.size A C) : A.grownBy C none := ⟨h.os, h.tape, h.output, h.size, fun k hk _ => h.block k hk⟩
theorem Inv.step {n : Nat} {w : World} (hn : n = w.heap.size) (pre : List (Bytes × Int)) (A C : World) (h : Inv n w pre A) (hs : StepB (n + 3) A C) : Inv n w pre C := by
  obtain ⟨h1, h2, ov, h3, h4⟩ := h
  rcases hs with hs | ⟨v, rfl⟩
  · have hg := grownBy_below hs
    exact ⟨h1, Nat.le_trans h2 hs.size, ov, h3.grown (by omega) hg (fun k e => by cases e), h4.kept hg (by cases ov.ownBlock <;> simp)⟩
  · have hg := grownBy_setCell' A (n + 3) v
    exact ⟨h1, Nat.le_trans h2 hg.size, ov, h3.grown (by omega) hg (fun k e => by cases e; omega), h4.kept hg (.inr fun e => by have := (h4.lt _ e).1; omega)⟩
theorem Inx.step {n : Nat} {w : World} (hn : n = w.heap.size) (pre : List (Bytes × Int)) (A C : World) (h : Inx n w pre A) (hs : StepB (n + 3) A C) : Inx n w pre C := by
  obtain ⟨p, hp, h2, ov, h3⟩ := h
  rcases hs with hs | ⟨v, rfl⟩
  · exact ⟨p, hp, h2, ov, h3.grown (by omega) (grownBy_below hs) (fun k e => by cases e)⟩
  · exact ⟨p, hp, h2, ov, h3.grown (by omega) (grownBy_setCell' A (n + 3) v) (fun k e => by cases e; omega)⟩
theorem strs_of_row {w : World} {base : Nat} {e : TypeId} {v : Value} {k : Nat} {l : List Bytes} (h : w.ownsRow base e 1 v k (l.map S)) : Strs w v l := by
  have hk : k = l.length := by have := h.1; simpa using this.symm
  subst hk
  rcases h.2 with ⟨rfl, h0⟩ | ⟨g, cap, cur, rfl, _, hg, _, _, _, _⟩
  · exact ⟨none, 0, by rw [h0], fun hl => absurd (List.length_eq_zero_iff.1 h0) hl⟩
  · refine ⟨_, _, rfl, fun _ => ⟨g, 0, rfl, fun j hj => ?_⟩⟩
    have := h.cells (g := g) rfl j (S l[j]) (by simp [hj])
    have hadd : (⟨g, 0, none⟩ : Addr).add j = ⟨g, j, none⟩ := by unfold Addr.add; split <;> simp_all
    rw [hadd] at this
    simpa using this
theorem strsUnder : Tryd.prog.underlying 89 = some (.slice 9) := by kernel_rfl
theorem results_cell2 {fn : Func} {p q : Tmp} {ty tz : TypeId} (h : fn.results = #[.cell p ty, .cell q tz]) (tmps : Array Value) (P : Program) (w : World) :
    (results fn tmps).run P w =
      ((asAddr (tmps.getD p undef)).run P w).andThen fun a w₁ => ((loadVar ty a).run P w₁).andThen fun v w₂ =>
        ((asAddr (tmps.getD q undef)).run P w₂).andThen fun b w₃ => ((loadVar tz b).run P w₃).andThen fun u w₄ => .ok (.tuple #[v, u]) w₄ := by
  simp only [results, h]
  simp [Sem.run_bind, Result.andThen]
def plainT : TypeDesc → Bool | .struct _ | .array _ _ => false | _ => true
theorem load_box {P : Program} {W : World} {B : Nat} {t : TypeId} {v : Value} (d : TypeDesc) (h : W.cell? ⟨B, 0, none⟩ = some v) (ht : P.underlying t = some d)
    (hd : plainT d = true) : (loadVar t ⟨B, 0, none⟩).run P W = .ok v W := by
  have hagg : (isAgg t).run P W = .ok false W := by
    unfold isAgg
    rw [Sem.run_bind, run_underlying ht W]
    cases d <;> simp_all [plainT]
  simp only [loadVar, Sem.run_bind, hagg, Result.andThen]
  simp [load, Sem.run, h]
theorem results_two {fn : Func} {p q : Tmp} {t u : TypeId} (hf : fn.results = #[.cell p t, .cell q u]) {tmps : Array Value} {P : Program} {W : World} {B C : Nat} {v x : Value} (d1 d2 : TypeDesc)
    (hp : tmps.getD p undef = .pointer (some ⟨B, 0, none⟩)) (hq : tmps.getD q undef = .pointer (some ⟨C, 0, none⟩)) (hB : W.cell? ⟨B, 0, none⟩ = some v) (hC : W.cell? ⟨C, 0, none⟩ = some x)
    (h1 : P.underlying t = some d1) (h2 : plainT d1 = true) (h3 : P.underlying u = some d2) (h4 : plainT d2 = true) :
    (results fn tmps).run P W = .ok (.tuple #[v, x]) W := by
  rw [results_cell2 hf, hp, hq]
  have a1 := load_box d1 hB h1 h2; have a2 := load_box d2 hC h3 h4
  simp only [asAddr, Sem.run_pure, Result.andThen]
  rw [a1]; simp only []; rw [a2]
theorem errUnder : Tryd.prog.underlying 27 = some (.int .i64) := by kernel_rfl
/-- what Unpack answers -/
def UnpIs (o : Option (List Bytes)) (w : World) (v : Value) (x : Int) : Prop := (∃ l, o = some l ∧ x = 0 ∧ Strs w v l) ∨ (o = none ∧ x = 4 ∧ v = .slice none 0 0)
set_option maxRecDepth 100000 in
set_option maxHeartbeats 4000000 in
theorem unpack_any (s : Bytes) (w : World) (hs : s.length < 4294967281) (hg : Glob w) :
    Calls Tryd.prog 42 #[S s] w fun e w' => (∃ v x, e = .returned (.tuple #[v, .int .i64 x]) ∧ UnpIs (unpack s) w' v x) ∧ Below w.heap.size w w' := by
  rw [← callsIn_wide (n := 3)]
  obtain ⟨i0, hi, hz0, hz1, hz2⟩ := info_parts strInfo
  obtain ⟨hsl, hsp, hsn⟩ := seqOf_spec _ s (Nat.le_refl _)
  refine callsIn_of_wp_marks Tryd.func42 rfl trivial ?_ rfl
  simp only [Tryd.ntmps42, List.size_toArray, List.length_cons, List.length_nil, Nat.reduceAdd, Nat.reduceSub, Array.replicate_succ, Array.replicate_zero, List.push_toArray, List.append_toArray, List.nil_append, List.cons_append]
  gi_wp2_with (refine ⟨trivial, ?_⟩; refine (callsIn_wide.2 (texts_any s _)).mono ?_; rintro e w' ⟨rfl, rfl⟩)
  obtain ⟨W0, hW0⟩ : ∃ W0, ((((w.alloc (Obj.cells #[Value.slice none 0 0] 89)).alloc (Obj.cells #[Value.int IntKind.i64 0] 27)).alloc (Obj.cells #[Value.slice none 0 0] 89)).alloc (Obj.cells #[S s] 9)) = W0 := ⟨_, rfl⟩
  have hsz : W0.heap.size = w.heap.size + 4 := by rw [← hW0]; simp
  have hb0 : Below w.heap.size w W0 := by rw [← hW0]; exact ((((Below.refl _ w).alloc (Nat.le_refl _) _).alloc (by simp only [World.size_alloc]; omega) _).alloc (by simp only [World.size_alloc]; omega) _).alloc (by simp only [World.size_alloc]; omega) _
  have b1 : Boxed W0 w.heap.size 89 (.slice none 0 0) := by rw [← hW0]; exact (((Boxed.new w _ _).alloc _).alloc _).alloc _
  have b2 : Boxed W0 (w.heap.size + 1) 27 (.int .i64 0) := by
    rw [← hW0]; have := Boxed.new (w.alloc (Obj.cells #[Value.slice none 0 0] 89)) 27 (.int .i64 0); rw [World.size_alloc] at this; exact (this.alloc _).alloc _
  have b3 : Boxed W0 (w.heap.size + 2) 89 (.slice none 0 0) := by
    rw [← hW0]; have := Boxed.new ((w.alloc (Obj.cells #[Value.slice none 0 0] 89)).alloc (Obj.cells #[Value.int IntKind.i64 0] 27)) 89 (.slice none 0 0); simp only [World.size_alloc] at this; exact this.alloc _
  have b4 : Boxed W0 (w.heap.size + 3) 9 (S s) := by
    rw [← hW0]; have := Boxed.new (((w.alloc (Obj.cells #[Value.slice none 0 0] 89)).alloc (Obj.cells #[Value.int IntKind.i64 0] 27)).alloc (Obj.cells #[Value.slice none 0 0] 89)) 9 (S s); simp only [World.size_alloc] at this; exact this
  rw [hW0]
  have hg0 : Glob W0 := hg.next hb0
  have h8 : 8 ≤ w.heap.size := hg.big
  clear hW0 hg
  refine range_by (gf := 85) (lb := #[.pointer (some ⟨w.heap.size + 3, 0, none⟩)]) rfl (enters_of Tryd.func85 (by kernel_rfl) rfl)
    (texts1_by 2 (w.heap.size + 3) w.heap.size s W0 hg0 (by omega) h8 (by omega) hs (by omega) b4.cell b4.frozen) stepB_others (fun h k => h.trans k)
    (fun W l o o' hl hlo hc => (Only.refl _ W).grown (grownBy_putObj' W l o') (fun k e => by cases e; exact .inl ⟨by omega, by omega⟩)) (fun _ => rfl)
    (Inv w.heap.size w) (Inx w.heap.size w) (fun s => hsz ▸ Inv.books rfl s) (fun s => hsz ▸ Inx.books rfl s) (Inv.step rfl) (Inx.step rfl)
    ⟨by simp, by omega, _, ⟨b1, b2, b3, hb0⟩, World.ownsRow_nil _ _ _ _⟩ (fun p => ?act) ?assign ?body ?done ?stop
  case act => exact { tmps := #[S s, undef, Value.pointer (some ⟨w.heap.size, 0, none⟩), Value.pointer (some ⟨w.heap.size + 1, 0, none⟩), Value.pointer (some ⟨w.heap.size + 1 + 1, 0, none⟩), S p.1, .int .i64 p.2, S s, Value.func (Fn.func 85) #[] #[Value.pointer (some ⟨w.heap.size + 1 + 1 + 1, 0, none⟩)], S p.1, .int .i64 p.2, undef, undef, undef, undef, undef, undef, undef, undef], defers := [] }
  case assign =>
    intro l x W K hK
    simp only [enc2]
    gi_wp2
    exact hK
  case body =>
    rintro l pre ⟨t, x⟩ W ⟨h0, hz, ov, hU, hrow⟩ hlt
    have hcr := hU.r.cell; have hfr := hU.r.frozen; have hce := hU.e.cell; have hfe := hU.e.frozen; have hco := hU.o.cell; have hfo := hU.o.frozen
    have hlr := hU.r.lt; have hle := hU.e.lt; have hlo := hU.o.lt
    by_cases hx : x = 0
    · subst hx
      gi_wp2_with (gi_at_builtin; refine wpListIn_append_own _ rfl _ _ 89 rfl (w.heap.size + 4) 9 i0 (.string ⟨#[]⟩) 1 16 strsUnder hi hz0 hz1 hz2 rfl (by decide) _ _ _ rfl (hrow.alloc _) ⟨W.heap.size, 0, none⟩ 1 1 [S t] rfl rfl (cell_one_new _ _ _) (by simp [Value.oneCell']) (by show _ ≤ 9223372036854775807; omega) (by omega) (by rw [World.size_alloc]; omega) ?_; intro v' w1 hown' hgrow _; obtain ⟨g', cap', rfl⟩ := ownsRow_succ hown'; obtain ⟨hv1, hv2, hr2, hk2, hb2⟩ := appended_only hU.o (by omega) hrow hown' hgrow; have hc1 := hv1.cell; have hf1 := hv1.frozen)
      have hkeep : Unp w.heap.size w (w1.setCell ⟨w.heap.size + 2, 0, none⟩ (.slice (some ⟨g', 0, none⟩) (pre.length + 1) cap')) (.slice none 0 0) 0 (.slice (some ⟨g', 0, none⟩) (pre.length + 1) cap') :=
        ⟨(hb2.block _ hlr (by omega)).trans hU.r, (hb2.block _ hle (by omega)).trans hU.e, hv2, (Only.trans (Only.of_below hU.b) (hb2.mono fun k _ hk => (show w.heap.size ≤ k by omega))).below (Nat.le_refl _) (fun k hk => hk)⟩
      refine ⟨hk2.from _, hb2.mono (fun k _ hk => ⟨by omega, by omega⟩), ?_, Nat.le_trans hz hb2.size, _, hkeep, by simpa using hr2⟩
      intro p hp
      rcases List.mem_append.1 hp with hp | hp
      · exact h0 p hp
      · rw [List.mem_singleton] at hp; subst hp; rfl
    · have hne : (x != 0) = true := by simpa using hx
      gi_wp2
      refine ⟨((KeepsOthers.setCell W _ _).trans (KeepsOthers.setCell _ _ _)).from _, (t, x), by simp, hx, ov, ⟨(hU.r.set _).kept (grownBy_setCell' _ _ _) (by simp), ((hU.e.kept (grownBy_setCell' W w.heap.size _) (by simp)).set _), ?_, ?_⟩⟩
      · exact (hU.o.kept (grownBy_setCell' W w.heap.size _) (by simp)).kept (grownBy_setCell' _ (w.heap.size + 1) _) (by simp)
      · exact (hU.b.setCell (p := ⟨w.heap.size, 0, none⟩) (Nat.le_refl _) _).setCell (p := ⟨w.heap.size + 1, 0, none⟩) (by simp) _
  case done =>
    rintro D xs W hD rfl ⟨h0, hz, ov, hU, hrow⟩ hK
    have hun := hsp h0
    have hst := strs_of_row (l := (seqOf s).map (·.1)) (by rw [List.map_map]; exact hrow)
    obtain ⟨A, c, rfl, -⟩ := hst
    have hcr := hU.r.cell; have hfr := hU.r.frozen; have hce := hU.e.cell; have hfe := hU.e.frozen; have hco := hU.o.cell; have hfo := hU.o.frozen
    have hlr := hU.r.lt; have hle := hU.e.lt; have hlo := hU.o.lt
    gi_wp2
    have hk2 := (KeepsOthers.setCell W ⟨w.heap.size, 0, none⟩ (.slice A (seqOf s).length c)).trans (KeepsOthers.setCell _ ⟨w.heap.size + 1, 0, none⟩ (Value.int .i64 0))
    refine ⟨by simp, .inl ⟨_, _, rfl, run_takeDeferred (hk2.same _ _ hK rfl), ?_⟩⟩
    have e1 := set_same (v := Value.slice A (seqOf s).length c) hcr
    have g1 : ((W.setCell ⟨w.heap.size, 0, none⟩ (.slice A (seqOf s).length c)).setCell ⟨w.heap.size + 1, 0, none⟩ (.int .i64 0)).cell? ⟨w.heap.size, 0, none⟩ = some (.slice A (seqOf s).length c) := (set_blk (by simp)).trans e1
    have g2 : ((W.setCell ⟨w.heap.size, 0, none⟩ (.slice A (seqOf s).length c)).setCell ⟨w.heap.size + 1, 0, none⟩ (.int .i64 0)).cell? ⟨w.heap.size + 1, 0, none⟩ = some (.int .i64 0) := set_same (u := .int .i64 0) ((set_blk (by simp)).trans hce)
    obtain ⟨W2, hW2⟩ : ∃ W2, (W.setCell ⟨w.heap.size, 0, none⟩ (.slice A (seqOf s).length c)).setCell ⟨w.heap.size + 1, 0, none⟩ (.int .i64 0) = W2 := ⟨_, rfl⟩
    rw [hW2] at g1 g2 ⊢
    rw [hW2] at hk2
    have hd2 := hk2.same _ _ hK rfl
    have p1 : ∀ a, a.block ≠ D → (W2.putObj D (.deferred none)).cell? a = W2.cell? a := fun a ha => World.cell?_of_block (World.putObj_heap_other ha)
    have hO : Only (fun k => w.heap.size ≤ k ∧ k < w.heap.size + 2) W W2 := by
      rw [← hW2]; exact ((Only.refl _ W).setCell (p := ⟨w.heap.size, 0, none⟩) (.inl (by simp)) _).setCell (p := ⟨w.heap.size + 1, 0, none⟩) (.inl (by simp)) _
    refine ⟨_, results_two rfl _ _ rfl rfl ((p1 _ (by show w.heap.size ≠ D; omega)).trans g1) ((p1 _ (by show w.heap.size + 1 ≠ D; omega)).trans g2) strsUnder rfl errUnder rfl, ?_⟩
    have hr2 : W2.ownsRow (w.heap.size + 4) 9 1 (.slice A (seqOf s).length c) (seqOf s).length ((seqOf s).map fun p => S p.1) := by
      rw [List.length_map] at hrow
      rw [← hW2]
      exact (hrow.kept (grownBy_setCell' W _ _) (.inr (fun e => by have := (hrow.lt _ e).1; omega))).kept (grownBy_setCell' _ _ _) (.inr (fun e => by have := (hrow.lt _ e).1; omega))
    have hr3 := ownsRow_putObj hr2 (.deferred none) hd2 rfl
    refine ⟨⟨_, _, rfl, .inl ⟨_, (by first | exact hun | rfl), rfl, strs_of_row (l := (seqOf s).map (·.1)) (by rw [List.map_map]; exact hr3)⟩⟩, ?_⟩
    exact ((Only.of_below hU.b).trans (hO.mono fun k _ hk => hk.1)).below (Nat.le_refl _) (fun k hk => hk) |>.grown (grownBy_putObj' _ _ _) (by have := hO.size; omega) (fun k e => by cases e; omega)
  case stop =>
    rintro D pre W hD hpre ⟨⟨t, x⟩, hp, hx, ov, hU⟩ hK
    obtain ⟨h4, hun⟩ := hsn (t, x) (hpre.subset hp) hx
    simp only at h4; subst h4
    gi_wp2
    refine ⟨by simp, .inl ⟨_, _, rfl, run_takeDeferred hK, ?_⟩⟩
    have p1 : ∀ a, a.block ≠ D → (W.putObj D (.deferred none)).cell? a = W.cell? a := fun a ha => World.cell?_of_block (World.putObj_heap_other ha)
    refine ⟨_, results_two rfl _ _ rfl rfl ((p1 _ (by show w.heap.size ≠ D; omega)).trans hU.r.cell) ((p1 _ (by show w.heap.size + 1 ≠ D; omega)).trans hU.e.cell) strsUnder rfl errUnder rfl, ?_⟩
    exact ⟨⟨_, _, rfl, .inr ⟨(by first | exact hun | rfl), rfl, rfl⟩⟩, hU.b.grown (grownBy_putObj' _ _ _) hU.b.size (fun k e => by cases e; omega)⟩
end Go.Proofs.YtocgnkenlfdffaaDoor
