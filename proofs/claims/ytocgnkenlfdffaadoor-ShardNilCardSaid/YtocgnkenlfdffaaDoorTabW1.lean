/- package table: value, Check, New; where a key's row stands. -/
import Derived.Test.YtocgnkenlfdffaaDoorNest4
import Derived.Test.YtocgnkenlfdffaaDoorTab
import Derived.Outline
import Derived.Deep.LoopGhost
import Derived.BigQuiet
namespace Go.Proofs.YtocgnkenlfdffaaDoor
open Go Go.RowKit Go.Wap
def opV (o : OpT) : Value := .agg #[.int .i64 o.kind, S o.key, S o.value, S o.old]
theorem value_any (s : Bytes) (w : World) : Calls Tryd.prog 81 #[S s] w fun e w' => e = .returned (.bool (decide (s.length ≤ 64))) ∧ w = w' := by
  go_enter Tryd.func81, Tryd.ntmps81
  go_wp2_with fail
  go_ret
  exact ⟨by simp; omega, rfl⟩
theorem check_any (o : OpT) (w : World) : Calls Tryd.prog 78 #[opV o] w fun e w' => e = .returned (.int .i64 (checkT o)) ∧ Below w.heap.size w w' := by
  obtain ⟨kind, key, value, old⟩ := o
  have hb0 : ∀ cs t, Below w.heap.size w (w.alloc (.cells cs t)) := fun cs t => (Below.refl w.heap.size w).alloc (Nat.le_refl _) (.cells cs t)
  have c0 := cell_new w #[.int .i64 kind, S key, S value, S old] 69 0
  have c1 := cell_new w #[.int .i64 kind, S key, S value, S old] 69 1
  have c2 := cell_new w #[.int .i64 kind, S key, S value, S old] 69 2
  have c3 := cell_new w #[.int .i64 kind, S key, S value, S old] 69 3
  simp only [List.getElem?_toArray, List.getElem?_cons_zero, List.getElem?_cons_succ] at c0 c1 c2 c3
  have HB := Lib.hid hb0; clear hb0
  unfold opV
  go_enter Tryd.func78, Tryd.ntmps78
  go_wp2_with (go_at_call 81; refine (value_any _ _).mono ?_; rintro e w' ⟨rfl, rfl⟩)
  all_goals
    go_ret
    refine ⟨?_, HB.out _ _⟩
    clear HB c0 c1 c2 c3
    congr 2
    simp only [checkT]
    repeat' split
    all_goals first | rfl | (exfalso; simp_all; done) | (exfalso; simp_all; omega)
theorem tnew_any (w : World) : Calls Tryd.prog 57 #[] w fun e w' => e = .returned (.pointer (some ⟨w.heap.size, 0, none⟩)) ∧ w.alloc (.cells #[.slice none 0 0] 153) = w' := by
  go_enter Tryd.func57, Tryd.ntmps57
  go_wp2_with fail
  go_ret
  exact ⟨rfl, rfl⟩
theorem cmp_any (a b k : Bytes) (w : World) : Calls Tryd.prog 95 #[.agg #[S a, S b], S k] w fun e w' => e = .returned (.int .i64 (Lib.compareBytes a k)) ∧ w.alloc (.cells #[S a, S b] 163) = w' := by
  have c0 := cell_new w #[S a, S b] 163 0
  simp only [List.getElem?_toArray, List.getElem?_cons_zero] at c0
  go_enter Tryd.func95, Tryd.ntmps95
  go_wp2_with (go_at_call 96; refine (Tryd.strings_Compare _ _ _).mono ?_; rintro e w' ⟨rfl, rfl⟩)
  go_ret
  exact ⟨rfl, rfl⟩
end Go.Proofs.YtocgnkenlfdffaaDoor
