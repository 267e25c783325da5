/- Contracts of blake's small functions: a turn of a word, half of G, the word that a row names. -/
import Derived.Test.YtocgnkenlfdffaaDoorProg
import Derived.Test.YtocgnkenlfdffaaDoorBits
import Derived.WalkKit
import Derived.WalkSpells
import Derived.WalkLawsBesides
import Derived.Lib.Hide
namespace Go.Proofs.YtocgnkenlfdffaaDoor
open Go.RowKit
theorem rotl_16 (x : Nat) (w : World) (hw : x < 4294967296) :
    Calls Tryd.prog 121 #[.int .u32 x, .int .i64 (-16)] w fun e w' => e = .returned (.int .u32 (rotr x 16 : Nat)) ∧ w = w' := by
  have e1 : bits .and .u64 (IntKind.u64.wrap (-16)) 31 = 16 := by decide +kernel
  have e2 := rotr_16_or x hw
  go_enter Tryd.func121, Tryd.ntmps121
  go_wp2_with fail
  go_ret
  exact ⟨rfl, rfl⟩
theorem rotl_12 (x : Nat) (w : World) (hw : x < 4294967296) :
    Calls Tryd.prog 121 #[.int .u32 x, .int .i64 (-12)] w fun e w' => e = .returned (.int .u32 (rotr x 12 : Nat)) ∧ w = w' := by
  have e1 : bits .and .u64 (IntKind.u64.wrap (-12)) 31 = 20 := by decide +kernel
  have e2 := rotr_12_or x hw
  go_enter Tryd.func121, Tryd.ntmps121
  go_wp2_with fail
  go_ret
  exact ⟨rfl, rfl⟩
theorem rotl_8 (x : Nat) (w : World) (hw : x < 4294967296) :
    Calls Tryd.prog 121 #[.int .u32 x, .int .i64 (-8)] w fun e w' => e = .returned (.int .u32 (rotr x 8 : Nat)) ∧ w = w' := by
  have e1 : bits .and .u64 (IntKind.u64.wrap (-8)) 31 = 24 := by decide +kernel
  have e2 := rotr_8_or x hw
  go_enter Tryd.func121, Tryd.ntmps121
  go_wp2_with fail
  go_ret
  exact ⟨rfl, rfl⟩
theorem rotl_7 (x : Nat) (w : World) (hw : x < 4294967296) :
    Calls Tryd.prog 121 #[.int .u32 x, .int .i64 (-7)] w fun e w' => e = .returned (.int .u32 (rotr x 7 : Nat)) ∧ w = w' := by
  have e1 : bits .and .u64 (IntKind.u64.wrap (-7)) 31 = 25 := by decide +kernel
  have e2 := rotr_7_or x hw
  go_enter Tryd.func121, Tryd.ntmps121
  go_wp2_with fail
  go_ret
  exact ⟨rfl, rfl⟩
/-- one half of G, by its two turns -/
structure W4 where
  (a b c d : Nat)
def halfF (l : W4) (x r s : Nat) : W4 :=
  let a := (l.a + l.b + x) % 4294967296
  let d := rotr (l.d ^^^ a) r
  let c := (l.c + d) % 4294967296
  ⟨a, rotr (l.b ^^^ c) s, c, d⟩
def W4.ok (l : W4) : Prop := l.a < 4294967296 ∧ l.b < 4294967296 ∧ l.c < 4294967296 ∧ l.d < 4294967296
def laneV (l : W4) : Value := .agg #[.int .u32 l.a, .int .u32 l.b, .int .u32 l.c, .int .u32 l.d]
theorem halfF_ok (l : W4) (x r s : Nat) (h : l.ok) (hr : r ≤ 32) (hs : s ≤ 32) : (halfF l x r s).ok := by
  obtain ⟨h1, h2, h3, h4⟩ := h
  unfold W4.ok halfF
  exact ⟨by dsimp; omega, rotr_lt _ _ (xor_lt h2 (by omega)) hs, by dsimp; omega, rotr_lt _ _ (xor_lt h4 (by omega)) hr⟩
theorem xor_sum3 (a b x d : Nat) (h : d < 4294967296) : bits .xor .u32 (d : Int) (((a : Int) + b + x) % 4294967296) = ((d ^^^ ((a + b + x) % 4294967296) : Nat) : Int) := by
  have e2 : ((a : Int) + b + x) % 4294967296 = (((a + b + x) % 4294967296 : Nat) : Int) := by omega
  rw [e2, u32_xor d _ h (by omega)]
theorem xor_sum2 (a b d : Nat) (h : d < 4294967296) : bits .xor .u32 (d : Int) (((a : Int) + b) % 4294967296) = ((d ^^^ ((a + b) % 4294967296) : Nat) : Int) := by
  have e2 : ((a : Int) + b) % 4294967296 = (((a + b) % 4294967296 : Nat) : Int) := by omega
  rw [e2, u32_xor d _ h (by omega)]
theorem int_eq {k : IntKind} {a b : Int} (h : a = b) : Value.int k a = Value.int k b := by rw [h]
theorem half_16 (l : W4) (x : Nat) (w : World) (h : l.ok) :
    Calls Tryd.prog 110 #[laneV l, .int .u32 x, .int .i64 16, .int .i64 12] w fun e w' => e = .returned (laneV (halfF l x 16 12)) ∧ Below w.heap.size w w' := by
  obtain ⟨a, b, c, d⟩ := l
  obtain ⟨h1, h2, h3, h4⟩ := h
  dsimp only at h1 h2 h3 h4
  unfold laneV halfF
  dsimp only
  go_enter Tryd.func110, Tryd.ntmps110
  go_wp2_with fail
  rw [xor_sum3 _ _ _ _ h4]
  have hD := rotr_lt (d ^^^ ((a + b + x) % 4294967296)) 16 (xor_lt h4 (by omega)) (by omega)
  refine (rotl_16 _ _ (xor_lt h4 (by omega))).mono ?_
  rintro e w1 ⟨rfl, rfl⟩
  generalize hDD : rotr (d ^^^ ((a + b + x) % 4294967296)) 16 = D at *
  have HD := Lib.hid hDD; clear hDD
  go_wp2_with fail
  rw [xor_sum2 _ _ _ h2]
  refine (rotl_12 _ _ (xor_lt h2 (by omega))).mono ?_
  rintro e w1 ⟨rfl, rfl⟩
  generalize hEE : rotr (b ^^^ ((c + D) % 4294967296)) 12 = E at *
  have HE := Lib.hid hEE; clear hEE
  go_wp2_with fail
  refine bodyPost_ret (v := .agg #[.int .u32 ((a + b + x) % 4294967296), .int .u32 E, .int .u32 ((c + D) % 4294967296), .int .u32 D]) (by simp [results, Tryd.results110, go_sem]) rfl ⟨by have hDD := HD.out; have hEE := HE.out; subst hEE; subst hDD; simp, ?_⟩
  exact ((((Below.refl _ _).alloc (Nat.le_refl _) _).alloc (by simp) _))
theorem half_8 (l : W4) (x : Nat) (w : World) (h : l.ok) :
    Calls Tryd.prog 110 #[laneV l, .int .u32 x, .int .i64 8, .int .i64 7] w fun e w' => e = .returned (laneV (halfF l x 8 7)) ∧ Below w.heap.size w w' := by
  obtain ⟨a, b, c, d⟩ := l
  obtain ⟨h1, h2, h3, h4⟩ := h
  dsimp only at h1 h2 h3 h4
  unfold laneV halfF
  dsimp only
  go_enter Tryd.func110, Tryd.ntmps110
  go_wp2_with fail
  rw [xor_sum3 _ _ _ _ h4]
  have hD := rotr_lt (d ^^^ ((a + b + x) % 4294967296)) 8 (xor_lt h4 (by omega)) (by omega)
  refine (rotl_8 _ _ (xor_lt h4 (by omega))).mono ?_
  rintro e w1 ⟨rfl, rfl⟩
  generalize hDD : rotr (d ^^^ ((a + b + x) % 4294967296)) 8 = D at *
  have HD := Lib.hid hDD; clear hDD
  go_wp2_with fail
  rw [xor_sum2 _ _ _ h2]
  refine (rotl_7 _ _ (xor_lt h2 (by omega))).mono ?_
  rintro e w1 ⟨rfl, rfl⟩
  generalize hEE : rotr (b ^^^ ((c + D) % 4294967296)) 7 = E at *
  have HE := Lib.hid hEE; clear hEE
  go_wp2_with fail
  refine bodyPost_ret (v := .agg #[.int .u32 ((a + b + x) % 4294967296), .int .u32 E, .int .u32 ((c + D) % 4294967296), .int .u32 D]) (by simp [results, Tryd.results110, go_sem]) rfl ⟨by have hDD := HD.out; have hEE := HE.out; subst hEE; subst hDD; simp, ?_⟩
  exact ((((Below.refl _ _).alloc (Nat.le_refl _) _).alloc (by simp) _))
theorem half_16w (l : W4) (x : Nat) (w : World) (h : l.ok) :
    Calls Tryd.prog 110 #[.agg #[.int .u32 l.a, .int .u32 l.b, .int .u32 l.c, .int .u32 l.d], .int .u32 x, .int .i64 16, .int .i64 12] w fun e w' =>
      e = .returned (.agg #[.int .u32 (halfF l x 16 12).a, .int .u32 (halfF l x 16 12).b, .int .u32 (halfF l x 16 12).c, .int .u32 (halfF l x 16 12).d]) ∧ Below w.heap.size w w' :=
  half_16 l x w h
theorem half_8w (l : W4) (x : Nat) (w : World) (h : l.ok) :
    Calls Tryd.prog 110 #[.agg #[.int .u32 l.a, .int .u32 l.b, .int .u32 l.c, .int .u32 l.d], .int .u32 x, .int .i64 8, .int .i64 7] w fun e w' =>
      e = .returned (.agg #[.int .u32 (halfF l x 8 7).a, .int .u32 (halfF l x 8 7).b, .int .u32 (halfF l x 8 7).c, .int .u32 (halfF l x 8 7).d]) ∧ Below w.heap.size w w' :=
  half_8 l x w h
theorem half_16v (a b c d : Nat) (x : Nat) (w : World) (h : W4.ok ⟨a, b, c, d⟩) :
    Calls Tryd.prog 110 #[.agg #[.int .u32 a, .int .u32 b, .int .u32 c, .int .u32 d], .int .u32 x, .int .i64 16, .int .i64 12] w fun e w' =>
      e = .returned (.agg #[.int .u32 (halfF ⟨a, b, c, d⟩ x 16 12).a, .int .u32 (halfF ⟨a, b, c, d⟩ x 16 12).b, .int .u32 (halfF ⟨a, b, c, d⟩ x 16 12).c, .int .u32 (halfF ⟨a, b, c, d⟩ x 16 12).d]) ∧ Below w.heap.size w w' :=
  half_16 ⟨a, b, c, d⟩ x w h
/-- the word that a row names at a place -/
def hexv (c : UInt8) : Nat := if c.toNat ≤ 57 then c.toNat - 48 else c.toNat - 87
theorem digit_any (g : Nat) (f : Nat → Nat) (row : List UInt8) (at_ : Nat) (w : World) (hat : at_ < row.length)
    (hr : ∀ i (h : i < row.length), 48 ≤ row[i].toNat ∧ row[i].toNat ≤ 57 ∨ 97 ≤ row[i].toNat ∧ row[i].toNat ≤ 102)
    (hm : ∀ i, i < 16 → w.cell? ⟨g, i, none⟩ = some (.int .u32 (f i))) :
    Calls Tryd.prog 111 #[.pointer (some ⟨g, 0, none⟩), .string ⟨row.toArray⟩, .int .i64 at_] w fun e w' => e = .returned (.int .u32 (f (hexv row[at_]))) ∧ w = w' := by
  have hb := hr at_ hat
  have hv : hexv row[at_] = if row[at_].toNat ≤ 57 then row[at_].toNat - 48 else row[at_].toNat - 87 := rfl
  have hc : ∃ c : UInt8, ({ data := row.toArray } : ByteArray)[at_]'(show at_ < row.toArray.size by simpa using hat) = c ∧ row[at_] = c := ⟨row[at_], rfl, rfl⟩
  obtain ⟨c, hc1, hc2⟩ := hc
  rw [hc2] at hb hv
  rw [hc2]
  clear hc2 hr
  rcases hb with hb | hb
  · rw [hv, if_pos hb.2]
    have hcell := hm (c.toNat - 48) (by omega)
    obtain ⟨hb1, hb2⟩ := hb
    clear hv
    go_enter Tryd.func111, Tryd.ntmps111
    go_wp2_with fail
    go_ret
    exact ⟨rfl, rfl⟩
  · rw [hv, if_neg (by omega)]
    have hcell := hm (c.toNat - 97 + 10) (by omega)
    obtain ⟨hb1, hb2⟩ := hb
    clear hv
    have h87 : c.toNat - 87 = c.toNat - 97 + 10 := by omega
    rw [h87]
    clear h87
    go_enter Tryd.func111, Tryd.ntmps111
    go_wp2_with fail
    go_ret
    exact ⟨rfl, rfl⟩
theorem digit_at (g : Nat) (f : Nat → Nat) (row : List UInt8) (q : Int) (at_ : Nat) (hq : q = (at_ : Int)) (w : World) (hat : at_ < row.length)
    (hr : ∀ i (h : i < row.length), 48 ≤ row[i].toNat ∧ row[i].toNat ≤ 57 ∨ 97 ≤ row[i].toNat ∧ row[i].toNat ≤ 102)
    (hm : ∀ i, i < 16 → w.cell? ⟨g, i, none⟩ = some (.int .u32 (f i))) :
    Calls Tryd.prog 111 #[.pointer (some ⟨g, 0, none⟩), .string ⟨row.toArray⟩, .int .i64 q] w fun e w' => e = .returned (.int .u32 (f (hexv row[at_]))) ∧ w = w' := by
  subst hq; exact digit_any g f row at_ w hat hr hm
end Go.Proofs.YtocgnkenlfdffaaDoor
