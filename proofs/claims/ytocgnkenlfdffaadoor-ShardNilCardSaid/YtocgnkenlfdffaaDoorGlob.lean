/- What the package-level variables hold, and that it stays. -/
import Derived.Test.YtocgnkenlfdffaaDoorProg
import Derived.Test.YtocgnkenlfdffaaDoorKit
import Derived.Test.YtocgnkenlfdffaaDoorNest
import Derived.Lib.LaidTab
import Derived.Lib.ItoaNum
import Derived.Lib.AppendIntMem
import Derived.Lib.IndexBytes
import Derived.Lib.IndexMore
namespace Go.Proofs.YtocgnkenlfdffaaDoor
open Go Go.RowKit Go.Wap Go.Sort
def powV : Array Value := (Lib.pow10Tab.map fun z => Value.int .u64 z).toArray
/-- WHAT THE VARIABLES HOLD. -/
structure Glob (w : World) : Prop where
  big : 8 ≤ w.heap.size
  maxlen : ∃ m : Int, w.cell? ⟨4, 0, none⟩ = some (.int .i64 m)
  pow10 : Gl w 5 powV
  esyn : ∃ tp p, Gl w 2 #[.iface tp p]
  eran : ∃ tp p, Gl w 3 #[.iface tp p]
theorem Glob.only {w w' : World} {S : Nat → Prop} (h : Glob w) (ho : Only S w w') (hs : ∀ k, k < 8 → ¬ S k) : Glob w' := by
  obtain ⟨h1, ⟨m, h4⟩, h5, ⟨tp, p, h6⟩, ⟨tq, q, h7⟩⟩ := h
  exact ⟨Nat.le_trans h1 ho.size, ⟨m, (ho.cell (p := ⟨4, 0, none⟩) (show 4 < w.heap.size by omega) (hs _ (show 4 < 8 by omega))).trans h4⟩, h5.only ho (hs _ (by omega)), ⟨tp, p, h6.only ho (hs _ (by omega))⟩, ⟨tq, q, h7.only ho (hs _ (by omega))⟩⟩
theorem Glob.below {w w' : World} {B : Nat} (h : Glob w) (hb : Below B w w') (hB : 8 ≤ B) : Glob w' := h.only (Only.of_below hb) (fun k hk => by omega)
theorem Glob.next {w w' : World} (h : Glob w) (hb : Below w.heap.size w w') : Glob w' := h.below hb h.big
theorem Gl.var {w : World} {g : Nat} {cs : Array Value} (h : Gl w g cs) {P : Program} {n : String} (hn : P.globalNamed n = some g) : w.var? P n = some cs := by
  obtain ⟨t, fr, h⟩ := h
  simp only [World.var?, hn, Option.bind_some]
  rw [h]
theorem Glob.tab {w : World} (h : Glob w) : Lib.TabIs Tryd.prog w "internal/strconv.uint64pow10" .u64 Lib.pow10Tab := h.pow10.var (by kernel_rfl)
/-- texts as values -/
abbrev S (l : Bytes) : Value := .string ⟨l.toArray⟩
theorem cut_lib (s : Bytes) : Lib.cut s [58] = match cut s with | some p => (p.1, p.2, true) | none => (s, [], false) := by
  have hi : ∀ s : Bytes, Lib.index s [58] = match cut s with | some p => (p.1.length : Int) | none => -1 := by
    intro s
    induction s with
    | nil => rfl
    | cons c l ih =>
      rw [Lib.index, cut]
      by_cases hc : c = 58
      · subst hc; rw [if_pos (by rfl), if_pos rfl]; rfl
      · rw [if_neg (by simp; exact fun h => hc h.symm), if_neg hc]
        cases hl : cut l with
        | none => rw [hl] at ih; simp only [] at ih; rw [ih]; rfl
        | some p =>
          rw [hl] at ih
          simp only [] at ih
          rw [ih]
          simp only [Option.map_some]
          rw [if_neg (by simp)]
          simp
  unfold Lib.cut
  rw [hi]
  cases hs : cut s with
  | none => rfl
  | some p =>
    obtain ⟨hd, r⟩ := p
    have e := (cut_spec.1 hs).1
    simp only []
    rw [if_pos (by omega)]
    simp [e]
theorem below_grown {w w' : World} (h : ∃ k os, w' = grow (w.drewN k) os) : Below w.heap.size w w' := by
  obtain ⟨k, os, rfl⟩ := h
  exact Lib.below_grow _ w (Nat.le_refl _) k os
end Go.Proofs.YtocgnkenlfdffaaDoor
