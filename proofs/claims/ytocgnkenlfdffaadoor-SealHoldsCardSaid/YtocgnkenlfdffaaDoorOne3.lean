/- the tags of one(): computed by the kernel. -/
import Derived.Test.YtocgnkenlfdffaaDoorSeal7
import Derived.KernelRfl
namespace Go.Proofs.YtocgnkenlfdffaaDoor
open Go Go.RowKit Go.Wap
/-- the sum of a text of at most one block, under a key -/
def sum1 (K X : Bytes) (i : Nat) : Nat := outB (blockF (blockF (h0F K) 64 false (pad64 K)) (64 + X.length) true (pad64 X)) i
theorem sumF_one (K X : Bytes) (hK : K ≠ []) (hX : X ≠ []) (hl : X.length ≤ 64) : sumF K X = (List.range 32).map fun i => UInt8.ofNat (sum1 K X i) := by
  have hKe : K.isEmpty = false := by cases K with | nil => exact absurd rfl hK | cons a b => rfl
  have hXe : X.isEmpty = false := by cases X with | nil => exact absurd rfl hX | cons a b => rfl
  have hd : X.drop 64 = [] := List.drop_eq_nil_of_le hl
  have hst : stateF K X = blockF (blockF (h0F K) 64 false (pad64 K)) (64 + X.length) true (pad64 X) := by
    unfold stateF finF keyH keyT
    rw [if_neg hK, if_neg hK, if_neg (by simp [hKe]), hXe]
    rw [textF, if_neg hX, hd, textF, if_pos rfl, Nat.min_eq_left hl]
    rfl
  unfold sumF sum1
  rw [hst]
def oneKey : Bytes := [14, 172, 22, 9, 130, 223, 174, 56, 111, 147, 177, 48, 41, 144, 109, 155, 10, 229, 65, 133, 183, 46, 123, 59, 11, 2, 229, 255, 206, 69, 156, 222]
theorem one_name : nameF 0 3 = [49, 58, 48, 44, 49, 58, 51, 44] := by
  unfold nameF pack pack1 num; kernel_rfl
set_option maxRecDepth 100000 in
theorem one_key : sumF [115] (nameF 0 3) = oneKey := by
  rw [one_name, sumF_one _ _ (by simp) (by simp) (by simp)]
  kernel_rfl
set_option maxRecDepth 100000 in
theorem one_a : sum1 oneKey [97] 0 % 256 = 188 := by kernel_rfl
set_option maxRecDepth 100000 in
theorem one_b : sum1 oneKey [98] 0 % 256 = 102 := by kernel_rfl
theorem one_ne : tagF [115] [97] 0 3 ≠ tagF [115] [98] 0 3 := by
  intro h
  unfold tagF at h
  rw [one_key, sumF_one oneKey [97] (by simp [oneKey]) (by simp) (by simp), sumF_one oneKey [98] (by simp [oneKey]) (by simp) (by simp)] at h
  have h0 := congrArg (fun l : Bytes => (l.getD 0 0).toNat) h
  simp [List.range_succ_eq_map, one_a, one_b] at h0
end Go.Proofs.YtocgnkenlfdffaaDoor
