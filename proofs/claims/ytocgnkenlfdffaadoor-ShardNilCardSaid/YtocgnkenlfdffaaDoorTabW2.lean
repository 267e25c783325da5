/- package table: where a key's row stands (slices.BinarySearchFunc over rows; find). -/
import Derived.Test.YtocgnkenlfdffaaDoorTabW1
namespace Go.Proofs.YtocgnkenlfdffaaDoor
open Go Go.RowKit Go.Wap
/-- a row's cells -/
def cellsT (t : Tab) : List Value := (flatT t).map fun s => S s
/-- the rows lie in block g -/
def RowsAt (w : World) (g : Nat) (t : Tab) : Prop := ∀ j (h : j < t.length), w.cell? ⟨g, j * 2, none⟩ = some (S t[j].1) ∧ w.cell? ⟨g, j * 2 + 1, none⟩ = some (S t[j].2)
theorem RowsAt.below {w w' : World} {g : Nat} {t : Tab} (h : RowsAt w g t) (hb : Below w.heap.size w w') : RowsAt w' g t := fun j hj =>
  ⟨(hb.cell (p := ⟨g, j * 2, none⟩) (World.block_lt_of_cell? w ⟨g, j * 2, none⟩ (h j hj).1)).trans (h j hj).1, (hb.cell (p := ⟨g, j * 2 + 1, none⟩) (World.block_lt_of_cell? w ⟨g, j * 2 + 1, none⟩ (h j hj).2)).trans (h j hj).2⟩
theorem half_int (a b : Nat) (h : a + b < 4611686018427387904) : IntKind.i64.wrap (((IntKind.u64.wrap ((a : Int) + b)) / 2)) = ((a + b) / 2 : Nat) := by
  have e : IntKind.u64.wrap ((a : Int) + b) = (a : Int) + b := by simp [IntKind.wrap, IntKind.bits, IntKind.signed]; omega
  rw [e]
  exact (IntWalk.i64_in _ (by omega)).trans (by omega)
set_option maxHeartbeats 1000000 in
set_option maxRecDepth 100000 in
theorem search_any (t : Tab) (k : Bytes) (A : Option Addr) (c g : Nat) (w : World) (hA : t ≠ [] → A = some ⟨g, 0, none⟩) (ht : TabOk t) (hr : RowsAt w g t) :
    Calls Tryd.prog 94 #[.slice A t.length c, S k, .func (.func 95) #[] #[]] w fun e w' =>
      e = .returned (.tuple #[.int .i64 (aheadT k t), .bool (lookT t k).isSome]) ∧ Below w.heap.size w w' := by
  have h16 := ht.few
  have HO := Lib.hid ht.ord
  have HR := Lib.hid hr; have HA := Lib.hid hA
  clear ht hr hA
  go_enter Tryd.func94, Tryd.ntmps94
  go_wp2_with fail
  go_loopw [9, 10] (fun i j wr => ∃ lo hi : Nat, lo ≤ hi ∧ hi ≤ t.length ∧ i = .int .i64 lo ∧ j = .int .i64 hi ∧ Hid ((∀ m (h : m < t.length), m < lo → blt t[m].1 k = true) ∧ (∀ m (h : m < t.length), hi ≤ m → blt t[m].1 k = false)) ∧ Below w.heap.size w wr) (fun i j _ => (intOf j).toNat - (intOf i).toNat)
  case atStart => exact ⟨0, t.length, by omega, Nat.le_refl _, rfl, rfl, Lib.hid ⟨fun m h h1 => by omega, fun m h h1 => by omega⟩, Below.refl _ _⟩
  case round =>
    obtain ⟨lo, hi, h1, h2, rfl, rfl, HI, hbw⟩ := hrel
    by_cases hlt : lo < hi
    · obtain ⟨m, hm1, hm2, he⟩ : ∃ m : Nat, lo ≤ m ∧ m < hi ∧ ((lo : Int) + hi) / 2 = m := ⟨(lo + hi) / 2, by omega, by omega, by omega⟩
      have hmt : m < t.length := by omega
      obtain rfl := HA.out (by intro h; subst h; simp at hmt)
      obtain ⟨ha, hb⟩ := (HR.out.below hbw) m hmt
      have hI := HI.out
      have hord := HO.out
      cases hc : blt t[m].1 k with
      | true =>
        have hneg : Lib.compareBytes t[m].1 k < 0 := cmp_lt.2 hc
        have HI2 : Hid ((∀ q (h : q < t.length), q < m + 1 → blt t[q].1 k = true) ∧ (∀ q (h : q < t.length), hi ≤ q → blt t[q].1 k = false)) := Lib.hid ⟨fun q h h1 => by
          rcases Nat.lt_trichotomy q m with hq | rfl | hq
          · have a := (List.pairwise_iff_getElem.1 hord) q m h hmt hq
            exact blt_trans a hc
          · exact hc
          · omega, hI.2⟩
        have HB := Lib.hid hbw
        clear hI hord hc hbw HI
        go_wp2_with (go_at_call 95; refine (cmp_any t[m].1 t[m].2 k _).mono ?_; rintro e w' ⟨rfl, rfl⟩)
        go_roundw
        case rel => exact ⟨m + 1, hi, by omega, h2, by go_num, rfl, HI2, HB.out.alloc HB.out.size _⟩
        case measure => simp [intOf]; omega
      | false =>
        have hneg : ¬ Lib.compareBytes t[m].1 k < 0 := fun h => by rw [cmp_lt.1 h] at hc; cases hc
        have HI2 : Hid ((∀ q (h : q < t.length), q < lo → blt t[q].1 k = true) ∧ (∀ q (h : q < t.length), m ≤ q → blt t[q].1 k = false)) := Lib.hid ⟨hI.1, fun q h h1 => by
          rcases Nat.lt_trichotomy q m with hq | rfl | hq
          · omega
          · exact hc
          · cases hh : blt t[q].1 k with
            | false => rfl
            | true => have a := blt_trans ((List.pairwise_iff_getElem.1 hord) m q hmt h hq) hh; rw [hc] at a; cases a⟩
        have HB := Lib.hid hbw
        clear hI hord hc hbw HI
        go_wp2_with (go_at_call 95; refine (cmp_any t[m].1 t[m].2 k _).mono ?_; rintro e w' ⟨rfl, rfl⟩)
        go_roundw
        case rel => exact ⟨lo, m, by omega, by omega, rfl, rfl, HI2, HB.out.alloc HB.out.size _⟩
        case measure => simp [intOf]; omega
    · obtain rfl : lo = hi := by omega
      have hI := HI.out
      have e : lo = aheadT k t := ahead_unique HO.out h2 hI.1 hI.2
      have hl := ahead_le k t
      subst e
      have HB := Lib.hid hbw
      clear hI HI hlt h1
      by_cases hlt : aheadT k t < t.length
      · obtain rfl := HA.out (by intro h; subst h; simp at hlt)
        obtain ⟨ha, hb⟩ := (HR.out.below HB.out) _ hlt
        have hq : (lookT t k).isSome = decide (t[aheadT k t].1 = k) := by
          unfold lookT
          rw [List.getElem?_eq_getElem hlt]
          by_cases h : t[aheadT k t].1 = k <;> simp [h]
        by_cases hk : t[aheadT k t].1 = k
        · have hz : (Lib.compareBytes t[aheadT k t].1 k == 0) = true := by simpa using cmp_eq.2 hk
          rw [decide_eq_true hk] at hq
          have HQ := Lib.hid hq
          clear hk hq hbw
          go_wp2_with (go_at_call 95; refine (cmp_any t[aheadT k t].1 t[aheadT k t].2 k _).mono ?_; rintro e w' ⟨rfl, rfl⟩)
          go_ret2
          exact ⟨by rw [HQ.out]; rfl, HB.out.alloc HB.out.size _⟩
        · have hz : (Lib.compareBytes t[aheadT k t].1 k == 0) = false := by simpa using fun h => hk (cmp_eq.1 h)
          rw [decide_eq_false hk] at hq
          have HQ := Lib.hid hq
          clear hk hq hbw
          go_wp2_with (go_at_call 95; refine (cmp_any t[aheadT k t].1 t[aheadT k t].2 k _).mono ?_; rintro e w' ⟨rfl, rfl⟩)
          go_ret2
          exact ⟨by rw [HQ.out]; rfl, HB.out.alloc HB.out.size _⟩
      · have hq : (lookT t k).isSome = false := by
          unfold lookT
          rw [List.getElem?_eq_none (by omega)]; rfl
        have HQ := Lib.hid hq
        clear hbw hq
        go_wp2_with fail
        go_ret2
        exact ⟨by rw [HQ.out]; rfl, HB.out⟩
theorem find_any (t : Tab) (k : Bytes) (A : Option Addr) (c g p : Nat) (w : World) (hp : w.cell? ⟨p, 0, none⟩ = some (.slice A t.length c)) (hA : t ≠ [] → A = some ⟨g, 0, none⟩) (ht : TabOk t) (hr : RowsAt w g t) :
    Calls Tryd.prog 79 #[.pointer (some ⟨p, 0, none⟩), S k] w fun e w' => e = .returned (.tuple #[.int .i64 (aheadT k t), .bool (lookT t k).isSome]) ∧ Below w.heap.size w w' := by
  have HA := Lib.hid hA; have HR := Lib.hid hr; have HT := Lib.hid ht
  clear hA hr ht
  go_enter Tryd.func79, Tryd.ntmps79
  go_wp2_with (go_at_call 94; refine (search_any t k A c g _ HA.out HT.out HR.out).mono ?_; rintro e w' ⟨rfl, hb⟩)
  go_ret2
  exact ⟨rfl, hb⟩
end Go.Proofs.YtocgnkenlfdffaaDoor
