/- What blake's variables hold, beside those of the rest. -/
import Derived.Test.YtocgnkenlfdffaaDoorBlk3
import Derived.Test.YtocgnkenlfdffaaDoorGlob
namespace Go.Proofs.YtocgnkenlfdffaaDoor
open Go Go.RowKit Go.Wap
/-- WHAT THE VARIABLES HOLD, blake's too. -/
structure GlobB (w : World) : Prop where
  g : Glob w
  start : Gl w 0 ivV
  rows : Gl w 1 rowsV
theorem GlobB.only {w w' : World} {S : Nat → Prop} (h : GlobB w) (ho : Only S w w') (hs : ∀ k, k < 8 → ¬ S k) : GlobB w' :=
  ⟨h.g.only ho hs, h.start.only ho (hs _ (by omega)), h.rows.only ho (hs _ (by omega))⟩
theorem GlobB.below {w w' : World} {B : Nat} (h : GlobB w) (hb : Below B w w') (hB : 8 ≤ B) : GlobB w' := h.only (Only.of_below hb) (fun k hk => by omega)
theorem GlobB.next {w w' : World} (h : GlobB w) (hb : Below w.heap.size w w') : GlobB w' := h.below hb h.g.big
end Go.Proofs.YtocgnkenlfdffaaDoor
