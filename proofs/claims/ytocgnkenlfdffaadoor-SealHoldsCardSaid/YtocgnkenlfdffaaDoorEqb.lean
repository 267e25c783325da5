/- two arrays of bytes, compared. -/
import Derived.Test.YtocgnkenlfdffaaDoorSeal2
import Derived.DeepKeys
namespace Go.Proofs.YtocgnkenlfdffaaDoor
open Go Go.RowKit Go.Wap
theorem part_byte {P : Program} (w : World) (e : TypeId) (hu : P.underlying e = some (.int .u8)) (l : Bytes) (i : Nat) (h : i < l.length) : (part e (bytesV l) i).run P w = .ok (.int .u8 (l.getD i 0).toNat) w := by
  have hagg : (isAgg e).run P w = .ok false w := by
    unfold isAgg
    rw [Sem.run_bind, run_underlying hu w]; rfl
  have hv := bytesV_at l i h
  simp only [part, Sem.run_bind, hagg, Result.andThen_ok]
  simp [hv]
theorem eqItems_bytes {P : Program} (w : World) (d : Nat) (e : TypeId) (hu : P.underlying e = some (.int .u8)) (l m : Bytes) : ∀ is : List Nat, (∀ i ∈ is, i < l.length ∧ i < m.length) →
    ∃ r : Bool, (Op.eqItems (d + 1) e 1 (bytesV l) (bytesV m) is).run P w = .ok r w ∧ (r = true ↔ ∀ i ∈ is, l.getD i 0 = m.getD i 0)
  | [], _ => ⟨true, by simp [Op.eqItems], by simp⟩
  | i :: is, h => by
    obtain ⟨r, hr, hiff⟩ := eqItems_bytes w d e hu l m is (fun j hj => h j (List.mem_cons_of_mem _ hj))
    obtain ⟨h1, h2⟩ := h i (by simp)
    have p1 := part_byte (P := P) w e hu l i h1
    have p2 := part_byte (P := P) w e hu m i h2
    have p3 : (Op.equalIn (d + 1) e (.int .u8 (l.getD i 0).toNat) (.int .u8 (m.getD i 0).toNat)).run P w = .ok (((l.getD i 0).toNat : Int) == ((m.getD i 0).toNat : Int)) w := by
      simp [Op.equalIn, Sem.run_bind, run_underlying hu, Result.andThen]
    simp only [Op.eqItems, Sem.run_bind, Nat.mul_one, p1, p2, p3, Result.andThen_ok]
    by_cases hq : l.getD i 0 = m.getD i 0
    · rw [hq]
      refine ⟨r, by simpa using hr, ?_⟩
      rw [hiff]
      exact ⟨fun h j hj => by
        rcases List.mem_cons.1 hj with rfl | hj
        · exact hq
        · exact h j hj, fun h j hj => h j (List.mem_cons_of_mem _ hj)⟩
    · have hne : (((l.getD i 0).toNat : Int) == ((m.getD i 0).toNat : Int)) = false := by
        simp only [beq_eq_false_iff_ne]
        intro hh; exact hq (UInt8.toNat_inj.1 (by omega))
      rw [hne]
      refine ⟨false, by simp, ?_⟩
      constructor
      · intro hf; cases hf
      · intro hall; exact absurd (hall i (by simp)) hq
theorem eq_arrays {P : Program} (w : World) (t e : TypeId) (n d : Nat) (i : TypeInfo) (hu : P.underlying t = some (.array n e)) (he : P.underlying e = some (.int .u8)) (hi : P.info? e = some i) (hc : P.cellsOf e = 1) (l m : Bytes) (hl : l.length = n) (hm : m.length = n) :
    (Op.equalIn (d + 2) t (.agg (bytesV l)) (.agg (bytesV m))).run P w = .ok (decide (l = m)) w := by
  rw [run_equalIn_array w (d + 1) _ _ hu hi, hc]
  obtain ⟨r, hr, hiff⟩ := eqItems_bytes (P := P) w d e he l m (List.range n) (fun j hj => by rw [List.mem_range] at hj; omega)
  rw [hr]
  congr 1
  have : r = true ↔ l = m := by
    rw [hiff]
    constructor
    · intro h
      apply List.ext_getElem (by omega)
      intro j h1 h2
      have := h j (List.mem_range.2 (by omega))
      simpa [List.getD, h1, h2] using this
    · rintro rfl; simp
  cases r <;> simp_all
end Go.Proofs.YtocgnkenlfdffaaDoor
