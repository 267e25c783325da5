/- package seal: parties, names. -/
import Derived.Test.YtocgnkenlfdffaaDoorNest4
import Derived.Deep.RegionHeld3
namespace Go.Wap
/-- is it a party -/
def IsP (g n : Int) : Prop := -1 ≤ g ∧ g ≤ 4 ∧ 0 ≤ n ∧ n ≤ 15
instance (g n : Int) : Decidable (IsP g n) := by unfold IsP; infer_instance
def nameF (g n : Int) : Bytes := pack [num g, num n]
theorem pack1_len (s : Bytes) (h : s.length < 1000000000) : (pack1 s).length ≤ s.length + 11 := by
  have := num_len_le s.length h; simp [pack1]; omega
theorem name_len (g n : Int) (ig : InI g) (iN : InI n) : (nameF g n).length ≤ 62 := by
  have a := num_len g ig; have b := num_len n iN
  have c := pack1_len (num g) (by omega); have d := pack1_len (num n) (by omega)
  rw [nameF, pack_cons, pack_cons, pack_nil]; simp; omega
end Go.Wap
namespace Go.Proofs.YtocgnkenlfdffaaDoor
open Go Go.RowKit Go.Wap
abbrev pV (g n : Int) : Value := .agg #[.int .i64 g, .int .i64 n]
abbrev sV (g n : Int) (X T : Bytes) : Value := .agg #[.int .i64 g, .int .i64 n, S X, S T]
theorem strs_new (w : World) (l : List Bytes) (t : TypeId) (c : Nat) : Strs (w.alloc (.cells (l.map S).toArray t)) (.slice (some ⟨w.heap.size, 0, none⟩) l.length c) l :=
  ⟨_, c, rfl, fun _ => ⟨w.heap.size, 0, rfl, fun j hj => by rw [cell_new]; simp [hj]⟩⟩
theorem is_any (g n : Int) (w : World) : Calls Tryd.prog 64 #[pV g n] w fun e w' => e = .returned (.bool (decide (IsP g n))) ∧ Below w.heap.size w w' := by
  have hb0 := (Below.refl w.heap.size w).alloc (Nat.le_refl _) (.cells #[.int .i64 g, .int .i64 n] 23)
  have c0 := cell_new w #[.int .i64 g, .int .i64 n] 23 0
  have c1 := cell_new w #[.int .i64 g, .int .i64 n] 23 1
  simp only [List.getElem?_toArray, List.getElem?_cons_zero, List.getElem?_cons_succ] at c0 c1
  by_cases h1 : -1 ≤ g
  · by_cases h2 : g ≤ 4
    · by_cases h3 : 0 ≤ n
      · by_cases h4 : n ≤ 15
        · rw [show decide (IsP g n) = true by simp [IsP, h1, h2, h3, h4]]
          go_enter Tryd.func64, Tryd.ntmps64
          go_wp2_with fail
          go_ret
          exact ⟨rfl, hb0⟩
        · rw [show decide (IsP g n) = false by simp [IsP, h1, h2, h3, h4]]
          go_enter Tryd.func64, Tryd.ntmps64
          go_wp2_with fail
          go_ret
          exact ⟨rfl, hb0⟩
      · rw [show decide (IsP g n) = false by simp [IsP, h1, h2, h3]]
        go_enter Tryd.func64, Tryd.ntmps64
        go_wp2_with fail
        go_ret
        exact ⟨rfl, hb0⟩
    · rw [show decide (IsP g n) = false by simp [IsP, h1, h2]]
      go_enter Tryd.func64, Tryd.ntmps64
      go_wp2_with fail
      go_ret
      exact ⟨rfl, hb0⟩
  · rw [show decide (IsP g n) = false by simp [IsP, h1]]
    go_enter Tryd.func64, Tryd.ntmps64
    go_wp2_with fail
    go_ret
    exact ⟨rfl, hb0⟩
theorem ringnew_ok (K : Bytes) (w : World) (h : K.length ≤ 32) : Calls Tryd.prog 10 #[S K] w fun e w' =>
    e = .returned (.tuple #[.pointer (some ⟨w.heap.size, 0, none⟩), .int .i64 0]) ∧ w' = w.alloc (.cells #[S K] 85) := by
  go_enter Tryd.func10, Tryd.ntmps10
  go_wp2_with fail
  go_ret2
  exact ⟨rfl, rfl⟩
theorem ringnew_no (K : Bytes) (w : World) (h : 32 < K.length) : Calls Tryd.prog 10 #[S K] w fun e w' =>
    e = .returned (.tuple #[.pointer none, .int .i64 2]) ∧ w' = w := by
  go_enter Tryd.func10, Tryd.ntmps10
  go_wp2_with fail
  go_ret2
  exact ⟨rfl, rfl⟩
theorem name_no (g n : Int) (w : World) (h : ¬ IsP g n) : Calls Tryd.prog 39 #[pV g n] w fun e w' =>
    e = .returned (.tuple #[S [], .int .i64 1]) ∧ Below w.heap.size w w' := by
  have hb0 := (Below.refl w.heap.size w).alloc (Nat.le_refl _) (.cells #[.int .i64 g, .int .i64 n] 23)
  have hd : decide (IsP g n) = false := by simp [h]
  go_enter Tryd.func39, Tryd.ntmps39
  go_wp2_with (go_at_call 64; refine (is_any g n _).mono ?_; rw [hd]; rintro e w' ⟨rfl, hb⟩)
  go_ret2
  exact ⟨rfl, hb0.trans (hb.mono hb0.size)⟩
theorem keepP {w w1 w2 : World} {g n : Int} (h : w1.cell? ⟨w.heap.size, 0, none⟩ = some (.int .i64 g) ∧ w1.cell? ⟨w.heap.size, 1, none⟩ = some (.int .i64 n) ∧ Below w.heap.size w w1) (hb : Below w1.heap.size w1 w2) :
    w2.cell? ⟨w.heap.size, 0, none⟩ = some (.int .i64 g) ∧ w2.cell? ⟨w.heap.size, 1, none⟩ = some (.int .i64 n) ∧ Below w.heap.size w w2 := by
  obtain ⟨h1, h2, h3⟩ := h
  have hl := World.block_lt_of_cell? w1 ⟨w.heap.size, 0, none⟩ h1
  exact ⟨(hb.cell (p := ⟨w.heap.size, 0, none⟩) hl).trans h1, (hb.cell (p := ⟨w.heap.size, 1, none⟩) hl).trans h2, h3.trans (hb.mono h3.size)⟩
theorem keepA {w w1 : World} {g n : Int} (o : Obj) (h : w1.cell? ⟨w.heap.size, 0, none⟩ = some (.int .i64 g) ∧ w1.cell? ⟨w.heap.size, 1, none⟩ = some (.int .i64 n) ∧ Below w.heap.size w w1) :
    (w1.alloc o).cell? ⟨w.heap.size, 0, none⟩ = some (.int .i64 g) ∧ (w1.alloc o).cell? ⟨w.heap.size, 1, none⟩ = some (.int .i64 n) ∧ Below w.heap.size w (w1.alloc o) :=
  keepP h ((Below.refl _ w1).alloc (Nat.le_refl _) o)
set_option maxHeartbeats 1000000 in
theorem name_ok (g n : Int) (w : World) (h : IsP g n) (hg : Glob w) : Calls Tryd.prog 39 #[pV g n] w fun e w' =>
    e = .returned (.tuple #[S (nameF g n), .int .i64 0]) ∧ Below w.heap.size w w' := by
  have hb0 := (Below.refl w.heap.size w).alloc (Nat.le_refl _) (.cells #[.int .i64 g, .int .i64 n] 23)
  have hd : decide (IsP g n) = true := by simp [h]
  have ig : InI g := by unfold IsP at h; unfold InI; omega
  have iN : InI n := by unfold IsP at h; unfold InI; omega
  have hpn : ∀ s ∈ [num g, num n], s.length ≤ 140737488355328 := by
    have a := num_len g ig; have b := num_len n iN
    intro s hs; simp at hs; rcases hs with rfl | rfl <;> omega
  have hpl := name_len g n ig iN
  have hpl : (pack [num g, num n]).length ≤ 140737488355328 := by show (nameF g n).length ≤ _; omega
  have HG := Lib.hid hg; clear hg
  have c0 := cell_new w #[.int .i64 g, .int .i64 n] 23 0
  have c1 := cell_new w #[.int .i64 g, .int .i64 n] 23 1
  simp only [List.getElem?_toArray, List.getElem?_cons_zero, List.getElem?_cons_succ] at c0 c1
  go_enter Tryd.func39, Tryd.ntmps39
  go_wp2_with (go_at_call 64; refine (is_any g n _).mono ?_; rw [hd]; rintro e w1 ⟨rfl, hb1⟩; have d0 := (hb1.cell (p := ⟨w.heap.size, 0, none⟩) (by simp)).trans c0; have d1 := (hb1.cell (p := ⟨w.heap.size, 1, none⟩) (by simp)).trans c1; have hb2 := hb0.trans (hb1.mono hb0.size); clear c0 c1)
  go_region_held3 (fun w' => w'.cell? ⟨w.heap.size, 0, none⟩ = some (.int .i64 g) ∧ w'.cell? ⟨w.heap.size, 1, none⟩ = some (.int .i64 n) ∧ Below w.heap.size w w')
    (first | assumption | exact keepA _ (by assumption) | (refine ⟨?_, ?_, ?_⟩ <;> first | assumption | exact Below.drew (by assumption)))
    (first | (go_at_call 46; refine (num_any _ _ (by assumption) (HG.out.below (B := w.heap.size) (And.right (And.right (by assumption))) HG.out.big)).mono ?_; rintro e w' ⟨rfl, hb'⟩; have hh := keepP (by assumption) hb') | (go_at_call 41; refine (pack_any _ [num g, num n] _ (strs_new _ [num g, num n] _ _) hpl hpn (HG.out.below (B := w.heap.size) (by first | assumption | exact And.right (And.right (by assumption)) | exact Below.alloc (by assumption) (Below.size (by assumption)) _) HG.out.big)).mono ?_; rintro e w' ⟨rfl, hb'⟩; have hh := keepP (by assumption) hb'))
  have hh := And.right (And.right hh)
  clear hb' d0 d1
  go_wp2_with fail
  go_ret2
  exact ⟨rfl, hh⟩
end Go.Proofs.YtocgnkenlfdffaaDoor
