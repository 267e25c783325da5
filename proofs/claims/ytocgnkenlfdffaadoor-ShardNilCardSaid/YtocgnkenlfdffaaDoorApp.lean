/- Laws: a block's cells behind a store; an append that grows, out of whatever source; an append of nothing. -/
import Derived.Test.YtocgnkenlfdffaaDoorKit
import Derived.Deep.Upon
import Derived.Deep.AppendSrc
import Derived.Deep.RegionLawGrows
import Derived.Laws.IdiomCopy
import Derived.Deep.MidRow
import Derived.OneCell
namespace Go.Proofs.YtocgnkenlfdffaaDoor
open Go Go.RowKit
/-- a store into a variable that is known whole -/
theorem RowV.setCell {W : World} {g : Nat} {t : TypeId} {cs : Array Value} (h : RowV W g t cs) (i : Nat) (v : Value) : RowV (W.setCell ⟨g, i, none⟩ v) g t (cs.setIfInBounds i v) := by
  unfold RowV at h ⊢
  simp [World.setCell, Array.getElem?_modify, h]
theorem RowV.setOther {W : World} {g : Nat} {t : TypeId} {cs : Array Value} (h : RowV W g t cs) {a : Addr} (ha : a.block ≠ g) (v : Value) : RowV (W.setCell a v) g t cs := by
  unfold RowV at h ⊢
  rw [← h]; exact Below.heap_setCell W a v g (Ne.symm ha)
theorem RowV.setCells {g : Nat} {t : TypeId} : ∀ (vs : List Value) (o : Nat) (W : World) (cs : Array Value), RowV W g t cs → ∃ ds, RowV (W.setCells g o vs) g t ds ∧ ds.size = cs.size ∧ (∀ j, j < o ∨ o + vs.length ≤ j → ds[j]? = cs[j]?) ∧ (o + vs.length ≤ cs.size → ∀ j (h : j < vs.length), ds[o + j]? = some vs[j])
  | [], o, W, cs, h => ⟨cs, h, rfl, fun _ _ => rfl, fun _ j hj => by simp at hj⟩
  | v :: vs, o, W, cs, h => by
    obtain ⟨ds, h1, h2, h3, h4⟩ := RowV.setCells vs (o + 1) (W.setCell ⟨g, o, none⟩ v) _ (h.setCell o v)
    refine ⟨ds, h1, by simpa using h2, fun j hj => ?_, fun hs j hj => ?_⟩
    · rw [h3 j (by simp at hj; omega), Array.getElem?_setIfInBounds_ne (by simp at hj; omega)]
    · cases j with
      | zero =>
        rw [h3 _ (.inl (by omega))]
        simp only [Nat.add_zero, List.getElem_cons_zero]
        rw [Array.getElem?_setIfInBounds_self_of_lt (by simp at hs; omega)]
      | succ j =>
        have := h4 (by simp at hs ⊢; omega) j (by simpa using hj)
        simp only [List.getElem_cons_succ]
        rw [← this]; congr 1; omega
/-- a variable is written over whole -/
theorem RowV.setAll {W : World} {g : Nat} {t : TypeId} {cs ds : Array Value} (h : RowV W g t cs) (hs : cs.size = ds.size) : RowV (W.setCells g 0 ds.toList) g t ds := by
  obtain ⟨es, h1, h2, _, h4⟩ := RowV.setCells ds.toList 0 W cs h
  have e : es = ds := by
    apply Array.ext (by omega)
    intro j hj hj'
    have := h4 (by simp [hs]) j (by simpa using hj')
    rw [Nat.zero_add] at this
    rw [Array.getElem?_eq_getElem hj] at this
    simpa using this
  rw [e] at h1; exact h1
theorem RowV.cell {W : World} {g : Nat} {t : TypeId} {cs : Array Value} (h : RowV W g t cs) (j : Nat) : W.cell? ⟨g, j, none⟩ = cs[j]? := cell_of_row W g j cs t (0, 0) h
theorem RowV.free {W : World} {g : Nat} {t : TypeId} {cs : Array Value} (h : RowV W g t cs) (j : Nat) : W.frozen? ⟨g, j, none⟩ = false := by
  simp only [World.frozen?]; rw [h]; simp
theorem RowV.only {W W' : World} {g : Nat} {t : TypeId} {cs : Array Value} {S : Nat → Prop} (h : RowV W g t cs) (ho : Only S W W') (hs : ¬ S g) : RowV W' g t cs := (ho.block g h.lt hs).trans h
theorem RowV.drew {W : World} {g : Nat} {t : TypeId} {cs : Array Value} (h : RowV W g t cs) : RowV W.drew g t cs := h
theorem RowV.range {W : World} {g : Nat} {t : TypeId} {cs : Array Value} (h : RowV W g t cs) (o : Nat) (ds : List Value) (hd : ∀ j v, ds[j]? = some v → cs[o + j]? = some v) : W.rangeAt g o ds := fun j v hv => by rw [h.cell]; exact hd j v hv
theorem RowV.there {W : World} {g : Nat} {t : TypeId} {cs : Array Value} (h : RowV W g t cs) (o n : Nat) (hn : o + n ≤ cs.size) : W.there g o n := fun j hj => by
  rw [h.cell, h.free]
  simp; omega
theorem Only.setCells {S : Nat → Prop} {g : Nat} : ∀ (vs : List Value) (o : Nat) {a b : World}, Only S a b → S g → Only S a (b.setCells g o vs)
  | [], _, _, _, h, _ => h
  | v :: vs, o, _, _, h, hg => Only.setCells vs (o + 1) (h.setCell (p := ⟨g, o, none⟩) (.inl hg) v) hg
theorem below_setCells {B : Nat} {g : Nat} : ∀ (vs : List Value) (o : Nat) {a b : World}, Below B a b → B ≤ g → Below B a (b.setCells g o vs)
  | [], _, _, _, h, _ => h
  | v :: vs, o, _, _, h, hg => below_setCells vs (o + 1) (h.setCell (p := ⟨g, o, none⟩) hg v) hg
theorem size_setCells {g : Nat} : ∀ (vs : List Value) (o : Nat) (w : World), (w.setCells g o vs).heap.size = w.heap.size
  | [], _, _ => rfl
  | v :: vs, o, w => by rw [World.setCells, size_setCells]; simp [World.setCell]
theorem rangeAt_next {w w' : World} {b o : Nat} {cs : List Value} (h : w.rangeAt b o cs) (hb : Below w.heap.size w w') : w'.rangeAt b o cs := fun j v hv =>
  (hb.cell (p := ⟨b, o + j, none⟩) (World.block_lt_of_cell? w ⟨b, o + j, none⟩ (h j v hv))).trans (h j v hv)
/-- AN APPEND THAT GROWS -/
theorem run_app_grow {P : Program} (w : World) (t ty e : TypeId) (i : TypeInfo) (z : Value) (size bytes B : Nat) (ht : P.underlying t = some (.slice e)) (hi : P.info? e = some i) (hz : i.zero = some z)
    (hsize : i.size = size) (hby : i.bytes = bytes) (hzs : z.cells.size = size)
    (A : Option Addr) (n c : Nat) (olds : List Value) (hl : olds.length = n * size) (hn : A = none → n = 0) (ho : ∀ a, A = some a → ∀ j u, olds[j]? = some u → w.cell? (a.add j) = some u)
    (x : Value) (m : Nat) (news : List Value) (hx : Src P size t x m news w) (hg : c < n + m) (h63 : n + m ≤ 1000000000) (hbytes : (n + m) * bytes ≤ 100000000000) (hB : B ≤ w.heap.size) :
    ∃ cap w', (Builtin.append_ #[t, t] ty #[.slice A n c, x]).run P w = .ok (.slice (some ⟨w.heap.size, 0, none⟩) (n + m) cap) w' ∧
      w'.ownsRow B e size (.slice (some ⟨w.heap.size, 0, none⟩) (n + m) cap) (n + m) (olds ++ news) ∧ Below w.heap.size w w' ∧ w.heap.size < w'.heap.size := by
  subst hsize; subst hby
  have hcells : (Builtin.firstCells i.size n (.slice A n c)).run P w.drew = .ok olds.toArray w.drew := by
    cases A with
    | none =>
      have := hn rfl; subst this
      have : olds = [] := List.eq_nil_of_length_eq_zero (by simpa using hl)
      subst this
      exact run_firstCells_none w.drew _ _ _ _
    | some a => exact run_firstCells_some w.drew _ _ a _ _ olds hl (by simpa using ho a rfl)
  have hcap := nextslicecap_le (need := n + m) (old := c) hg
  have hfit : Builtin.nextslicecap (n + m) c * i.bytes ≤ 281474976710656 := by
    have := Nat.mul_le_mul_right i.bytes hcap
    rw [Nat.mul_assoc] at this
    omega
  have hr := run_append_grow_src (P := P) w t t ty e i z ht hi hz A n c olds hcells x m news hx hg (by omega) hfit
  have hge := grownCap_ge w (n + m) c e
  have hlen : (olds ++ news).length = (n + m) * i.size := by rw [List.length_append, hl, hx.newsLen, Nat.add_mul]
  have hm : n + m ≤ maxLen := by unfold maxLen; omega
  refine ⟨_, _, hr, ⟨hlen, .inr ⟨w.heap.size, _, _, rfl, hB, heap_alloc_new w.drew _, hge, grownCap_le_maxLen w _ _ e hm, ?_, ?_⟩⟩, ?_, by rw [World.size_alloc]; exact Nat.lt_succ_self _⟩
  · simp only [Array.size_append, List.size_toArray, size_zeroCells, hzs, hlen, ← Nat.add_mul]
    congr 1
    omega
  · rw [Array.toList_append]
    exact List.take_left' hlen
  · exact ((Below.refl _ w).drew).alloc (Nat.le_refl _) _
theorem wp_app {P : Program} {w w' : World} {o : Oper} {a : Act} {K : Act → World → Prop} {Q : Exit → Act → World → Prop} (s x : Operand) (t : TypeId)
    (ho : o.op = .call { callee := .builtin .append, args := #[s, x], argTypes := #[t, t] }) {vs vx v : Value} (hs : a.eval s = vs) (hx : a.eval x = vx)
    (hr : (Builtin.append_ #[t, t] o.type #[vs, vx]).run P w = .ok v w') (h : K (a.put o.dst v) w') : o.wp P a w K Q := by
  unfold Oper.wp execOp
  simp only [ho, resolve, invoke, builtin, Sem.run_bind, Sem.run_pure, Result.andThen_ok, List.map_toArray, List.map_cons, List.map_nil, hs, hx, hr]
  exact h
theorem wpList_app {P : Program} {w w' : World} {ops : Array Oper} {rest : List Oper} {o : Oper} {a : Act} {Q : Exit → Act → World → Prop} (hgd : o.guard = none) (s x : Operand) (t : TypeId)
    (ho : o.op = .call { callee := .builtin .append, args := #[s, x], argTypes := #[t, t] }) {vs vx v : Value} (hs : a.eval s = vs) (hx : a.eval x = vx)
    (hr : (Builtin.append_ #[t, t] o.type #[vs, vx]).run P w = .ok v w') (h : wpList P ops Q rest (a.put o.dst v) w') : wpList P ops Q (o :: rest) a w :=
  wpList_plain hgd fun _ hK => wp_app s x t ho hs hx hr (hK _ _ h)
end Go.Proofs.YtocgnkenlfdffaaDoor
