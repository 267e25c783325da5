/- package nest: Unpack, a contract for each answer; a list of texts in new memory. -/
import Derived.Test.YtocgnkenlfdffaaDoorNest4
namespace Go.Proofs.YtocgnkenlfdffaaDoor
open Go Go.RowKit Go.Wap
theorem unpack_yes (s : Bytes) (l : List Bytes) (w : World) (h : unpack s = some l) (hs : s.length < 4294967281) (hg : Glob w) :
    Calls Tryd.prog 42 #[S s] w fun e w' => ∃ A c, e = .returned (.tuple #[.slice A l.length c, .int .i64 0]) ∧ Strs w' (.slice A l.length c) l ∧ Below w.heap.size w w' :=
  (unpack_any s w hs hg).mono fun e w' ⟨⟨v, x, he, hu⟩, hb⟩ => by
    rcases hu with ⟨l', h', hx, hst⟩ | ⟨h', _, _⟩
    · rw [h] at h'; cases h'; subst hx
      have hst' := hst
      obtain ⟨A, c, rfl, -⟩ := hst
      exact ⟨A, c, he, hst', hb⟩
    · rw [h] at h'; cases h'
theorem unpack_nope (s : Bytes) (w : World) (h : unpack s = none) (hs : s.length < 4294967281) (hg : Glob w) :
    Calls Tryd.prog 42 #[S s] w fun e w' => e = .returned (.tuple #[.slice none 0 0, .int .i64 4]) ∧ Below w.heap.size w w' :=
  (unpack_any s w hs hg).mono fun e w' ⟨⟨v, x, he, hu⟩, hb⟩ => by
    rcases hu with ⟨l', h', hx, hst⟩ | ⟨_, hx, hv⟩
    · rw [h] at h'; cases h'
    · subst hx; subst hv; exact ⟨he, hb⟩
theorem Strs.at {w : World} {A : Option Addr} {k c : Nat} {l : List Bytes} (h : Strs w (.slice A k c) l) (hl : l ≠ []) : ∃ g o, A = some ⟨g, o, none⟩ ∧ ∀ j (hj : j < l.length), w.cell? ⟨g, o + j, none⟩ = some (S l[j]) := by
  obtain ⟨A', c', he, h⟩ := h
  cases he
  exact h hl
theorem strs_new (w : World) (l : List Bytes) (t : TypeId) (c : Nat) : Strs (w.alloc (.cells (l.map S).toArray t)) (.slice (some ⟨w.heap.size, 0, none⟩) l.length c) l :=
  ⟨_, c, rfl, fun _ => ⟨w.heap.size, 0, rfl, fun j hj => by rw [cell_new]; simp [hj]⟩⟩
end Go.Proofs.YtocgnkenlfdffaaDoor
