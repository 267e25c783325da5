/- Small laws on words of 32 bits: xor, or, turns, as numbers. -/
import Derived.Laws.BitsAllLaws
import Derived.Laws.BitsLemmas
namespace Go.Proofs.YtocgnkenlfdffaaDoor
open Go
/-- a word turned right by k -/
def rotr (x k : Nat) : Nat := x / 2 ^ k + (x * 2 ^ (32 - k)) % 4294967296
theorem ofInt_32 (a : Nat) (ha : a < 4294967296) : (BitVec.ofInt 32 (a : Int)).toNat = a := by
  rw [BitVec.ofInt_natCast, BitVec.toNat_ofNat]; exact Nat.mod_eq_of_lt (by omega)
theorem u32_xor (a b : Nat) (ha : a < 4294967296) (hb : b < 4294967296) : bits .xor .u32 (a : Int) (b : Int) = ((a ^^^ b : Nat) : Int) := by
  have hx : a ^^^ b < 2 ^ 32 := Nat.xor_lt_two_pow (by omega) (by omega)
  show IntKind.u32.wrap ((BitVec.ofInt 32 (a : Int) ^^^ BitVec.ofInt 32 (b : Int)).toNat : Int) = _
  rw [BitVec.toNat_xor, ofInt_32 a ha, ofInt_32 b hb, IntKind.wrap_u32]
  omega
theorem u32_or (a b : Nat) (ha : a < 4294967296) (hb : b < 4294967296) : bits .or .u32 (a : Int) (b : Int) = ((a ||| b : Nat) : Int) := by
  have hx : a ||| b < 2 ^ 32 := Nat.or_lt_two_pow (by omega) (by omega)
  show IntKind.u32.wrap ((BitVec.ofInt 32 (a : Int) ||| BitVec.ofInt 32 (b : Int)).toNat : Int) = _
  rw [BitVec.toNat_or, ofInt_32 a ha, ofInt_32 b hb, IntKind.wrap_u32]
  omega
theorem or_lt {a b : Nat} (ha : a < 4294967296) (hb : b < 4294967296) : a ||| b < 4294967296 := Nat.or_lt_two_pow (n := 32) (by omega) (by omega)
theorem xor_lt {a b : Nat} (ha : a < 4294967296) (hb : b < 4294967296) : a ^^^ b < 4294967296 := Nat.xor_lt_two_pow (n := 32) (by omega) (by omega)
theorem rotr_16_or (x : Nat) (hx : x < 4294967296) : bits .or .u32 ((x : Int) * 65536 % 4294967296) ((x : Int) / 65536) = ((rotr x 16 : Nat) : Int) := by
  have e1 : (x : Int) * 65536 % 4294967296 = ((x * 65536 % 4294967296 : Nat) : Int) := by omega
  have e2 : (x : Int) / 65536 = ((x / 65536 : Nat) : Int) := by omega
  rw [e1, e2, u32_or _ _ (by omega) (by omega)]
  have e3 : x * 65536 % 4294967296 = 2 ^ 16 * (x % 65536) := by omega
  rw [e3, ← Nat.two_pow_add_eq_or_of_lt (by omega)]
  unfold rotr; omega
theorem rotr_12_or (x : Nat) (hx : x < 4294967296) : bits .or .u32 ((x : Int) * 1048576 % 4294967296) ((x : Int) / 4096) = ((rotr x 12 : Nat) : Int) := by
  have e1 : (x : Int) * 1048576 % 4294967296 = ((x * 1048576 % 4294967296 : Nat) : Int) := by omega
  have e2 : (x : Int) / 4096 = ((x / 4096 : Nat) : Int) := by omega
  rw [e1, e2, u32_or _ _ (by omega) (by omega)]
  have e3 : x * 1048576 % 4294967296 = 2 ^ 20 * (x % 4096) := by omega
  rw [e3, ← Nat.two_pow_add_eq_or_of_lt (by omega)]
  unfold rotr; omega
theorem rotr_8_or (x : Nat) (hx : x < 4294967296) : bits .or .u32 ((x : Int) * 16777216 % 4294967296) ((x : Int) / 256) = ((rotr x 8 : Nat) : Int) := by
  have e1 : (x : Int) * 16777216 % 4294967296 = ((x * 16777216 % 4294967296 : Nat) : Int) := by omega
  have e2 : (x : Int) / 256 = ((x / 256 : Nat) : Int) := by omega
  rw [e1, e2, u32_or _ _ (by omega) (by omega)]
  have e3 : x * 16777216 % 4294967296 = 2 ^ 24 * (x % 256) := by omega
  rw [e3, ← Nat.two_pow_add_eq_or_of_lt (by omega)]
  unfold rotr; omega
theorem rotr_7_or (x : Nat) (hx : x < 4294967296) : bits .or .u32 ((x : Int) * 33554432 % 4294967296) ((x : Int) / 128) = ((rotr x 7 : Nat) : Int) := by
  have e1 : (x : Int) * 33554432 % 4294967296 = ((x * 33554432 % 4294967296 : Nat) : Int) := by omega
  have e2 : (x : Int) / 128 = ((x / 128 : Nat) : Int) := by omega
  rw [e1, e2, u32_or _ _ (by omega) (by omega)]
  have e3 : x * 33554432 % 4294967296 = 2 ^ 25 * (x % 128) := by omega
  rw [e3, ← Nat.two_pow_add_eq_or_of_lt (by omega)]
  unfold rotr; omega
theorem rotr_lt (x k : Nat) (hx : x < 4294967296) (hk : k ≤ 32) : rotr x k < 4294967296 := by
  unfold rotr
  have h1 : x / 2 ^ k < 2 ^ (32 - k) := by
    rw [Nat.div_lt_iff_lt_mul (Nat.two_pow_pos k), ← Nat.pow_add, Nat.sub_add_cancel hk]; exact hx
  have h2 : x * 2 ^ (32 - k) % 4294967296 = 2 ^ (32 - k) * (x % 2 ^ k) := by
    have : (4294967296 : Nat) = 2 ^ (32 - k) * 2 ^ k := by rw [← Nat.pow_add, Nat.sub_add_cancel hk]
    rw [this, Nat.mul_comm x, Nat.mul_mod_mul_left]
  have h3 : x % 2 ^ k < 2 ^ k := Nat.mod_lt _ (Nat.two_pow_pos k)
  rw [h2]
  have h4 : 2 ^ (32 - k) * (x % 2 ^ k) + 2 ^ (32 - k) ≤ 2 ^ (32 - k) * 2 ^ k := by
    rw [← Nat.mul_succ]; exact Nat.mul_le_mul_left _ h3
  rw [← Nat.pow_add, Nat.sub_add_cancel hk] at h4
  have h5 : (2 : Nat) ^ 32 = 4294967296 := rfl
  omega
end Go.Proofs.YtocgnkenlfdffaaDoor
