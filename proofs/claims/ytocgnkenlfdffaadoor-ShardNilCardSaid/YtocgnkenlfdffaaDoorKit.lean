/- Small laws on memory: new blocks; a list of equations kept from the walk. -/
import Derived.WalkKit
import Derived.Lib.Hide
import Derived.Deep.Draws
import Derived.Laws.ResultCell
import Derived.Laws.Rows
namespace Go.Proofs.YtocgnkenlfdffaaDoor
open Go Go.RowKit
theorem cell_new (w : World) (cs : Array Value) (t : TypeId) (j : Nat) : (w.alloc (.cells cs t)).cell? ⟨w.heap.size, j, none⟩ = cs[j]? := cell_of_row _ _ _ _ _ _ (heap_alloc_new w _)
theorem frozen_new (w : World) (cs : Array Value) (t : TypeId) (j : Nat) : (w.alloc (.cells cs t)).frozen? ⟨w.heap.size, j, none⟩ = false := by
  have h := heap_alloc_new w (.cells cs t)
  simp only [World.frozen?]; rw [h]; simp
/-- a store tells what it stored, and lets the rest be -/
theorem set_same {w : World} {g i : Nat} {u v : Value} (h : w.cell? ⟨g, i, none⟩ = some u) : (w.setCell ⟨g, i, none⟩ v).cell? ⟨g, i, none⟩ = some v := World.cell?_setCell_same' w _ v (by rw [h]; rfl)
theorem set_off {w : World} {g i j : Nat} {v : Value} (h : i ≠ j) : (w.setCell ⟨g, i, none⟩ v).cell? ⟨g, j, none⟩ = w.cell? ⟨g, j, none⟩ := World.cell?_setCell_other _ _ _ _ (fun e => h (by injection e))
theorem set_blk {w : World} {g i : Nat} {a : Addr} {v : Value} (h : g ≠ a.block) : (w.setCell ⟨g, i, none⟩ v).cell? a = w.cell? a := World.cell?_setCell_other _ _ _ _ (fun e => h (by rw [← e]))
theorem set4 {w : World} {g : Nat} {a b c d x y z u : Value} (h0 : w.cell? ⟨g, 0, none⟩ = some a) (h1 : w.cell? ⟨g, 1, none⟩ = some b) (h2 : w.cell? ⟨g, 2, none⟩ = some c) (h3 : w.cell? ⟨g, 3, none⟩ = some d) :
    ((((w.setCell ⟨g, 0, none⟩ x).setCell ⟨g, 1, none⟩ y).setCell ⟨g, 2, none⟩ z).setCell ⟨g, 3, none⟩ u).cell? ⟨g, 0, none⟩ = some x ∧
    ((((w.setCell ⟨g, 0, none⟩ x).setCell ⟨g, 1, none⟩ y).setCell ⟨g, 2, none⟩ z).setCell ⟨g, 3, none⟩ u).cell? ⟨g, 1, none⟩ = some y ∧
    ((((w.setCell ⟨g, 0, none⟩ x).setCell ⟨g, 1, none⟩ y).setCell ⟨g, 2, none⟩ z).setCell ⟨g, 3, none⟩ u).cell? ⟨g, 2, none⟩ = some z ∧
    ((((w.setCell ⟨g, 0, none⟩ x).setCell ⟨g, 1, none⟩ y).setCell ⟨g, 2, none⟩ z).setCell ⟨g, 3, none⟩ u).cell? ⟨g, 3, none⟩ = some u := by
  refine ⟨?_, ?_, ?_, ?_⟩
  · rw [set_off (by omega), set_off (by omega), set_off (by omega)]; exact set_same h0
  · rw [set_off (by omega), set_off (by omega)]; exact set_same (u := b) (by rw [set_off (by omega)]; exact h1)
  · rw [set_off (by omega)]; exact set_same (u := c) (by rw [set_off (by omega), set_off (by omega)]; exact h2)
  · exact set_same (u := d) (by rw [set_off (by omega), set_off (by omega), set_off (by omega)]; exact h3)
/-- an element of an array value, each element of one cell -/
theorem run_index_arr {P : Program} (t e : TypeId) (n : Nat) (cs : Array Value) (k : IntKind) (j : Nat) (hj : j < n) (ht : P.underlying t = some (.array n e)) (d : TypeDesc) (he : P.underlying e = some d)
    (hd : (match d with | .struct _ | .array _ _ => false | _ => true) = true) (hs : (P.info? e).map (·.size) = some 1) (v : Value) (hv : cs[j]? = some v) (w : World) :
    (Instr.index t (.agg cs) (.int k (j : Int))).run P w = .ok v w := by
  cases hq : P.info? e with
  | none => simp [hq] at hs
  | some i =>
    have hsz : i.size = 1 := by simpa [hq] using hs
    have hagg : (isAgg e).run P w = .ok false w := by
      unfold isAgg
      rw [Sem.run_bind, run_underlying he w]
      cases d <;> simp_all
    simp [Instr.index, asIntOf, run_underlying ht w, hj, sizeOf, typeInfo, hq, hsz, part, hagg, hv]
theorem ba_extract (Y : List UInt8) (n m : Nat) : (⟨Y.toArray⟩ : ByteArray).extract n m = ⟨((Y.take m).drop n).toArray⟩ := by
  apply ByteArray.ext
  rw [ByteArray.data_extract]
  simp [List.extract_eq_take_drop, List.drop_take]
theorem below_drewN {B : Nat} {a w : World} (h : Below B a w) (n : Nat) : Below B a (w.drewN n) := ⟨h.os, h.tape, h.output, h.size, h.block⟩
/-- only blocks of S, and what is new, may have turned -/
structure Only (S : Nat → Prop) (w w' : World) : Prop where
  os : w'.os = w.os
  tape : w'.tape = w.tape
  output : w'.output = w.output
  size : w.heap.size ≤ w'.heap.size
  block : ∀ k, k < w.heap.size → ¬ S k → w'.heap[k]? = w.heap[k]?
section
variable {S T : Nat → Prop} {a b c w w' : World}
theorem Only.refl (S : Nat → Prop) (w : World) : Only S w w := ⟨rfl, rfl, rfl, Nat.le_refl _, fun _ _ _ => rfl⟩
theorem Only.trans (h : Only S a b) (k : Only S b c) : Only S a c :=
  ⟨k.os.trans h.os, k.tape.trans h.tape, k.output.trans h.output, Nat.le_trans h.size k.size, fun i hi hs => (k.block i (Nat.lt_of_lt_of_le hi h.size) hs).trans (h.block i hi hs)⟩
theorem Only.mono (h : Only S a b) (hS : ∀ k, k < a.heap.size → S k → T k) : Only T a b := ⟨h.os, h.tape, h.output, h.size, fun i hi ht => h.block i hi (fun hs => ht (hS i hi hs))⟩
theorem Only.of_below {B : Nat} (h : Below B a b) : Only (fun k => B ≤ k) a b := ⟨h.os, h.tape, h.output, h.size, fun i _ hs => h.block i (by omega)⟩
theorem Only.below {B : Nat} (h : Only S a b) (hB : B ≤ a.heap.size) (hS : ∀ k, S k → B ≤ k) : Below B a b := ⟨h.os, h.tape, h.output, h.size, fun i hi => h.block i (by omega) (fun hs => by have := hS i hs; omega)⟩
theorem Only.cell (h : Only S a b) {p : Addr} (hp : p.block < a.heap.size) (hs : ¬ S p.block) : b.cell? p = a.cell? p := World.cell?_of_block (w := a) (h.block p.block hp hs)
theorem Only.frozen (h : Only S a b) {p : Addr} (hp : p.block < a.heap.size) (hs : ¬ S p.block) : b.frozen? p = a.frozen? p := World.frozen?_of_block (w := a) (h.block p.block hp hs)
theorem Only.alloc (h : Only S a b) (o : Obj) : Only S a (b.alloc o) :=
  ⟨h.os, h.tape, h.output, Nat.le_trans h.size (by simp), fun i hi hs => (Below.heap_alloc b o i (Nat.lt_of_lt_of_le hi h.size)).trans (h.block i hi hs)⟩
theorem Only.drew (h : Only S a b) : Only S a b.drew := ⟨h.os, h.tape, h.output, h.size, h.block⟩
theorem Only.drewN (h : Only S a b) (n : Nat) : Only S a (b.drewN n) := ⟨h.os, h.tape, h.output, h.size, h.block⟩
theorem Only.setCell (h : Only S a b) {p : Addr} (hp : S p.block ∨ a.heap.size ≤ p.block) (u : Value) : Only S a (b.setCell p u) :=
  ⟨h.os, h.tape, h.output, by simpa [World.setCell] using h.size, fun i hi hs => (Below.heap_setCell b p u i (by
    rintro rfl
    rcases hp with hp | hp
    · exact hs hp
    · omega)).trans (h.block i hi hs)⟩
theorem Only.grown {row : Option Nat} (h : Only S a b) (hg : b.grownBy c row) (hr : ∀ k, row = some k → S k ∨ a.heap.size ≤ k) : Only S a c :=
  ⟨hg.os.trans h.os, hg.tape.trans h.tape, hg.output.trans h.output, Nat.le_trans h.size hg.size, fun i hi hs => (hg.block i (Nat.lt_of_lt_of_le hi h.size) (fun e => by
    rcases hr i e.symm with hr | hr
    · exact hs hr
    · omega)).trans (h.block i hi hs)⟩
theorem Only.addNew {n : Nat} (h : Only S a b) (k : Only (fun i => i = n) b c) (hn : a.heap.size ≤ n) : Only S a c :=
  ⟨k.os.trans h.os, k.tape.trans h.tape, k.output.trans h.output, Nat.le_trans h.size k.size, fun i hi hs => (k.block i (Nat.lt_of_lt_of_le hi h.size) (by show ¬ i = n; omega)).trans (h.block i hi hs)⟩
theorem Only.addBelow (h : Only S a b) {B : Nat} (k : Below B b c) (hB : a.heap.size ≤ B) : Only S a c :=
  ⟨k.os.trans h.os, k.tape.trans h.tape, k.output.trans h.output, Nat.le_trans h.size k.size, fun i hi hs => (k.block i (by omega)).trans (h.block i hi hs)⟩
end
/-- what a package-level variable holds -/
def Gl (w : World) (g : Nat) (cs : Array Value) : Prop := ∃ t fr, w.heap[g]? = some (.cells cs t fr)
theorem Gl.cell {w : World} {g : Nat} {cs : Array Value} (h : Gl w g cs) (j : Nat) : w.cell? ⟨g, j, none⟩ = cs[j]? := by
  obtain ⟨t, fr, h⟩ := h
  exact cell_of_row w g j cs t fr h
theorem Gl.only {w w' : World} {g : Nat} {cs : Array Value} {S : Nat → Prop} (h : Gl w g cs) (ho : Only S w w') (hs : ¬ S g) : Gl w' g cs := by
  obtain ⟨t, fr, h⟩ := h
  exact ⟨t, fr, (ho.block g (Array.getElem?_eq_some_iff.1 h).1 hs).trans h⟩
theorem Gl.below {w w' : World} {g B : Nat} {cs : Array Value} (h : Gl w g cs) (ho : Below B w w') (hs : g < B) : Gl w' g cs := by
  obtain ⟨t, fr, h⟩ := h
  exact ⟨t, fr, (ho.block g hs).trans h⟩
def aggT : TypeDesc → Bool | .struct _ | .array _ _ => true | _ => false
/-- block g is a variable of type t that holds cs -/
def RowV (W : World) (g : Nat) (t : TypeId) (cs : Array Value) : Prop := W.heap[g]? = some (.cells cs t (0, 0))
theorem RowV.below {W W' : World} {g B : Nat} {t : TypeId} {cs : Array Value} (h : RowV W g t cs) (hb : Below B W W') (hg : g < B) : RowV W' g t cs := (hb.block g hg).trans h
theorem RowV.new (W : World) (t : TypeId) (cs : Array Value) : RowV (W.alloc (.cells cs t)) W.heap.size t cs := heap_alloc_new W _
theorem RowV.lt {W : World} {g : Nat} {t : TypeId} {cs : Array Value} (h : RowV W g t cs) : g < W.heap.size := (Array.getElem?_eq_some_iff.1 h).1
theorem RowV.alloc {W : World} {g : Nat} {t : TypeId} {cs : Array Value} (h : RowV W g t cs) (o : Obj) : RowV (W.alloc o) g t cs := (Below.heap_alloc W o g h.lt).trans h
theorem below_setRow {B : Nat} {a W : World} {g : Nat} {cs : Array Value} (h : Below B a W) (hg : B ≤ g) : Below B a (W.setRow g cs) :=
  ⟨h.os, h.tape, h.output, by rw [size_setRow]; exact h.size, fun k hk => (setRow_other W g k cs (by omega)).trans (h.block k hk)⟩
theorem RowV.set {W : World} {g : Nat} {t : TypeId} {cs : Array Value} (h : RowV W g t cs) (ds : Array Value) : RowV (W.setRow g ds) g t ds := setRow_heap W g cs ds t _ h
theorem results_row_tmp {fn : Func} {p u : Tmp} {ty : TypeId} (h : fn.results = #[.cell p ty, .tmp u]) {tmps : Array Value} {P : Program} {w : World} {g : Nat} {t : TypeId} {cs : Array Value} (d : TypeDesc)
    (hp : tmps.getD p undef = .pointer (some ⟨g, 0, none⟩)) (hg : RowV w g t cs)
    (hu : P.underlying ty = some d) (hd : aggT d = true) (hi : (P.info? ty).map (·.size) = some cs.size) :
    (results fn tmps).run P w = .ok (.tuple #[.agg cs, tmps.getD u undef]) w := by
  have a1 := run_loadVar_row (P := P) w g t ty cs (0, 0) d hg hu (by cases d <;> simp_all [aggT]) hi
  rw [results_cell_tmp h, hp]
  simp only [asAddr, Sem.run_pure, Result.andThen]
  rw [a1]
end Go.Proofs.YtocgnkenlfdffaaDoor
