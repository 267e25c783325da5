/- The plain side of package table: a list of texts, row by row. -/
import Derived.Test.YtocgnkenlfdffaaDoorTab
namespace Go.Wap
open Go
/-- the row at an even place is one, and behind the last one -/
def goodAt (l : List Bytes) (j : Nat) : Prop := rowB (l.getD j []) (l.getD (j + 1) []) = true ∧ (0 < j → blt (l.getD (j - 2) []) (l.getD j []) = true)
theorem rowsF_good : ∀ (m : Nat) (l : List Bytes) (b : Option Bytes), l.length = 2 * m → (∀ k, k < m → rowB (l.getD (2 * k) []) (l.getD (2 * k + 1) []) = true) → (∀ k, k + 1 < m → blt (l.getD (2 * k) []) (l.getD (2 * k + 2) []) = true) →
    (∀ p, b = some p → 0 < m → blt p (l.getD 0 []) = true) → ∃ t, rowsF b l = some t := by
  intro m
  induction m with
  | zero =>
    intro l b hl _ _ _
    have : l = [] := List.eq_nil_of_length_eq_zero (by omega)
    subst this
    exact ⟨[], rfl⟩
  | succ m ih =>
    intro l b hl hr hb hp
    match l, hl with
    | x :: y :: l, hl =>
      obtain ⟨t, ht⟩ := ih l (some x) (by simp at hl; omega) (fun k hk => by have := hr (k + 1) (by omega); simpa [Nat.mul_add] using this) (fun k hk => by have := hb (k + 1) (by omega); simpa [Nat.mul_add] using this)
        (fun p hp' hm => by cases hp'; have := hb 0 (by omega); simpa using this)
      refine ⟨(x, y) :: t, ?_⟩
      rw [rowsF, if_pos ⟨by have := hr 0 (by omega); simpa using this, fun p hp' => by have := hp p hp' (by omega); simpa using this⟩, ht]
      rfl
theorem loadT_good {s : Bytes} {l : List Bytes} (hu : unpack s = some l) (h2 : l.length % 2 = 0) (h32 : l.length ≤ 32) (hg : ∀ j, j % 2 = 0 → j < l.length → goodAt l j) : ∃ t, loadT s = some t ∧ flatT t = l ∧ TabOk t := by
  obtain ⟨m, hm⟩ : ∃ m, l.length = 2 * m := ⟨l.length / 2, by omega⟩
  obtain ⟨t, ht⟩ := rowsF_good m l none hm (fun k hk => (hg (2 * k) (by omega) (by omega)).1) (fun k hk => by
    have := (hg (2 * k + 2) (by omega) (by omega)).2 (by omega)
    simpa using this) (fun p h => by cases h)
  have hl : loadT s = some t := by unfold loadT; rw [hu]; simp only []; rw [if_neg (by omega)]; exact ht
  exact ⟨t, hl, (rowsF_some _ l none t (Nat.le_refl _) ht).1, (loadT_some hl).2⟩
theorem getD_flat (t : Tab) (k : Nat) (h : k < t.length) : (flatT t).getD (2 * k) [] = t[k].1 ∧ (flatT t).getD (2 * k + 1) [] = t[k].2 := by
  unfold flatT
  induction t generalizing k with
  | nil => simp at h
  | cons r t ih =>
    cases k with
    | zero => simp
    | succ k => have := ih k (by simpa using h); simpa [Nat.mul_add] using this
theorem loadT_bad {s : Bytes} {l : List Bytes} (hu : unpack s = some l) {j : Nat} (hj : j % 2 = 0) (hjl : j < l.length) (hb : ¬ goodAt l j) : loadT s = none := by
  cases h : loadT s with
  | none => rfl
  | some t =>
    exfalso
    obtain ⟨e, ok⟩ := loadT_some h
    have hl : flatT t = l := by
      unfold textT at e
      have := unpack_pack (flatT t) (fun s hs => by
        unfold flatT at hs
        rw [List.mem_flatMap] at hs
        obtain ⟨r, hr, hs⟩ := hs
        have := ok.rows r hr
        simp at hs
        rcases hs with rfl | rfl <;> omega)
      rw [e, hu] at this; exact (Option.some.inj this).symm
    have hlen := flatT_length t
    rw [hl] at hlen
    obtain ⟨k, rfl⟩ : ∃ k, j = 2 * k := ⟨j / 2, by omega⟩
    have hk : k < t.length := by omega
    obtain ⟨g1, g2⟩ := getD_flat t k hk
    rw [hl] at g1 g2
    apply hb
    refine ⟨by rw [g1, g2]; exact rowB_true.2 (ok.rows _ (List.getElem_mem hk)), fun h0 => ?_⟩
    obtain ⟨q, rfl⟩ : ∃ q, k = q + 1 := ⟨k - 1, by omega⟩
    obtain ⟨f1, _⟩ := getD_flat t q (by omega)
    rw [hl] at f1
    rw [g1, show 2 * (q + 1) - 2 = 2 * q by omega, f1]
    exact (List.pairwise_iff_getElem.1 ok.ord) q (q + 1) (by omega) hk (by omega)
theorem loadT_odd {s : Bytes} {l : List Bytes} (hu : unpack s = some l) (h : l.length % 2 ≠ 0 ∨ 32 < l.length) : loadT s = none := by
  unfold loadT; rw [hu]; simp only []; rw [if_pos h]
theorem loadT_none {s : Bytes} (hu : unpack s = none) : loadT s = none := by unfold loadT; rw [hu]
end Go.Wap
