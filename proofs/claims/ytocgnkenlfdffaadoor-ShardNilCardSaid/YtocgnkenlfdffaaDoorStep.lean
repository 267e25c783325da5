/- law 14: a step that comes in, by value. -/
import Derived.Test.YtocgnkenlfdffaaDoorShW6
import Derived.Test.YtocgnkenlfdffaaDoorEnd
namespace Go.Proofs.YtocgnkenlfdffaaDoor
open Go Go.RowKit Go.Wap Go.ChangeShapes Go.WideShapes Go.ChangeAt Go.WideMaps Go.WideElems
open Go.ChangeMaps (open_string shut_string)
/-- a struct of five fields that reads, reads field by field -/
theorem trod_struct5 {H : Type} {enc : TypeId × Value → H} {P : Program} {w : World} {base : Nat} {spare : Nat → Bool} {held : Bool} {t : TypeId} {f0 f1 f2 f3 f4 : Field} {fuel : Nat} {cs : List Value} {x : DataW H × List MemPlace} (ht : P.underlying t = some (.struct #[f0, f1, f2, f3, f4])) (h : DataW.trod enc P w base spare held fuel t cs = some x) :
    ∃ y0 y1 y2 y3 y4 n, DataW.trod enc P w base spare held n f0.type ((cs.drop f0.offset).take (P.cellsOf f0.type)) = some y0 ∧ DataW.trod enc P w base spare held n f1.type ((cs.drop f1.offset).take (P.cellsOf f1.type)) = some y1 ∧
      DataW.trod enc P w base spare held n f2.type ((cs.drop f2.offset).take (P.cellsOf f2.type)) = some y2 ∧ DataW.trod enc P w base spare held n f3.type ((cs.drop f3.offset).take (P.cellsOf f3.type)) = some y3 ∧
      DataW.trod enc P w base spare held n f4.type ((cs.drop f4.offset).take (P.cellsOf f4.type)) = some y4 := by
  obtain ⟨xs, n, _, _, _, hlen, hf⟩ := DataW.trod_struct ht h
  match xs, hlen with
  | [y0, y1, y2, y3, y4], _ => exact ⟨y0, y1, y2, y3, y4, n, by simpa using hf 0 f0 rfl, by simpa using hf 1 f1 rfl, by simpa using hf 2 f2 rfl, by simpa using hf 3 f3 rfl, by simpa using hf 4 f4 rfl⟩
theorem ci1' : Tryd.prog.cellsOf 3 = 1 := by kernel_rfl
theorem cs1' : Tryd.prog.cellsOf 9 = 1 := by kernel_rfl
theorem co4 : Tryd.prog.cellsOf 69 = 4 := by kernel_rfl
theorem cst8 : Tryd.prog.cellsOf 71 = 8 := by kernel_rfl
set_option maxRecDepth 100000 in
/-- a step that comes in, by value -/
theorem open_step {H : Type} {enc : TypeId × Value → H} {W : World} {base : Nat} {b0 : Nat} {r : Reach} {sp : Nat → Bool} {held : Bool} {v : Value} {d : DataW H} {p : List MemPlace}
    (hv : Value.okWide Tryd.prog W r b0 71 v) (h : DataW.Trod enc Tryd.prog W base sp held 71 v d p) : ∃ (k c n : Int) (o : OpT) (X : Bytes), v = stepV k c n o X := by
  obtain ⟨cs, rfl, hsz⟩ := okWide_struct Tryd.underlying71 hv
  rw [cst8] at hsz
  obtain ⟨l⟩ := cs
  match l, hsz with
  | [a0, a1, a2, a3, a4, a5, a6, a7], _ =>
    obtain ⟨fuel, hf⟩ := h
    simp only [Value.cells] at hf
    obtain ⟨y0, y1, y2, y3, y4, m, h0, h1, h2, h3, h4⟩ := trod_struct5 Tryd.underlying71 hf
    simp only [ci1', cs1', co4, List.drop_zero, List.drop_succ_cons, List.take_succ_cons, List.take_zero] at h0 h1 h2 h3 h4
    obtain ⟨z0, z1, z2, z3, q, _, _, k0, k1, k2, k3⟩ := Go.Joins.trod_struct4 Tryd.underlying69 h3
    simp only [ci1', cs1', List.drop_zero, List.drop_succ_cons, List.take_succ_cons, List.take_zero] at k0 k1 k2 k3
    obtain ⟨i0, e0, _, _⟩ := DataW.trod_int Tryd.underlying3 h0
    obtain ⟨i1, e1, _, _⟩ := DataW.trod_int Tryd.underlying3 h1
    obtain ⟨i2, e2, _, _⟩ := DataW.trod_int Tryd.underlying3 h2
    obtain ⟨i3, e3, _, _⟩ := DataW.trod_int Tryd.underlying3 k0
    obtain ⟨s4, e4, _, _⟩ := DataW.trod_string Tryd.underlying9 k1
    obtain ⟨s5, e5, _, _⟩ := DataW.trod_string Tryd.underlying9 k2
    obtain ⟨s6, e6, _, _⟩ := DataW.trod_string Tryd.underlying9 k3
    obtain ⟨s7, e7, _, _⟩ := DataW.trod_string Tryd.underlying9 h4
    simp only [List.cons.injEq, and_true] at e0 e1 e2 e3 e4 e5 e6 e7
    subst e0 e1 e2 e3 e4 e5 e6 e7
    exact ⟨i0, i1, i2, ⟨i3, s4.data.toList, s5.data.toList, s6.data.toList⟩, s7.data.toList, by unfold stepV S; simp only [ba_list]⟩
end Go.Proofs.YtocgnkenlfdffaaDoor
