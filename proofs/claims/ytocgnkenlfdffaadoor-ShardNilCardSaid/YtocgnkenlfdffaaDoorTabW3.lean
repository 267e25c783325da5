/- package table: a table in memory; set. -/
import Derived.Test.YtocgnkenlfdffaaDoorTabW2
import Derived.Test.YtocgnkenlfdffaaDoorApp
namespace Go.Proofs.YtocgnkenlfdffaaDoor
open Go Go.RowKit Go.Wap
theorem rowInfo : (Tryd.prog.info? 163).map (fun i => (i.zero, i.size, i.bytes)) = some (some (.agg #[.string ⟨#[]⟩, .string ⟨#[]⟩]), 2, 32) := by kernel_rfl
theorem rowsUnder : Tryd.prog.underlying 151 = some (.slice 163) := by kernel_rfl
theorem cellsT_length (t : Tab) : (cellsT t).length = t.length * 2 := by unfold cellsT; rw [List.length_map, flatT_length]; omega
theorem cellsT_at (t : Tab) (j : Nat) (h : j < t.length) : (cellsT t)[j * 2]? = some (S t[j].1) ∧ (cellsT t)[j * 2 + 1]? = some (S t[j].2) := by
  unfold cellsT flatT
  induction t generalizing j with
  | nil => simp at h
  | cons r t ih =>
    cases j with
    | zero => simp
    | succ j =>
      have := ih j (by simpa using h)
      rw [show (j + 1) * 2 = j * 2 + 2 by omega]
      simpa using this
theorem cellsT_append (a b : Tab) : cellsT (a ++ b) = cellsT a ++ cellsT b := by unfold cellsT; rw [flatT_append, List.map_append]
theorem cellsT_one (t : Tab) : ∀ u ∈ cellsT t, u.oneCell' = true := by
  intro u hu
  obtain ⟨s, _, rfl⟩ := List.mem_map.1 hu
  rfl
theorem cellsT_take (t : Tab) (i : Nat) : cellsT (t.take i) = (cellsT t).take (i * 2) := by
  unfold cellsT; rw [flatT_take, List.map_take, Nat.mul_comm]
theorem cellsT_drop (t : Tab) (i : Nat) : cellsT (t.drop i) = (cellsT t).drop (i * 2) := by
  have e := cellsT_append (t.take i) (t.drop i)
  rw [List.take_append_drop, cellsT_take] at e
  by_cases hi : i ≤ t.length
  · have hl : ((cellsT t).take (i * 2)).length = i * 2 := by rw [List.length_take, cellsT_length]; omega
    conv => rhs; rw [e, List.drop_left' hl]
  · rw [List.drop_of_length_le (by omega), List.drop_of_length_le (by rw [cellsT_length]; omega)]; rfl
/-- a slice value that holds rows, alone: nil, or the head of a block of rows that may be written -/
def OwnT (w : World) (v : Value) (t : Tab) : Prop :=
  (v = .slice none 0 0 ∧ t = []) ∨ ∃ g cap cur, v = .slice (some ⟨g, 0, none⟩) t.length cap ∧ RowV w g 163 cur ∧ t.length ≤ cap ∧ cap ≤ maxLen ∧ cap * 2 ≤ cur.size ∧ cur.toList.take (t.length * 2) = cellsT t
theorem OwnT.ofOwns {w : World} {b : Nat} {v : Value} {t : Tab} (h : w.ownsRow b 163 2 v t.length (cellsT t)) : OwnT w v t := by
  rcases h.2 with ⟨rfl, h0⟩ | ⟨g, cap, cur, rfl, hb, hh, hn, hm, hs, ht⟩
  · exact .inl ⟨rfl, List.eq_nil_of_length_eq_zero h0⟩
  · exact .inr ⟨g, cap, cur, rfl, hh, hn, hm, by omega, ht⟩
theorem OwnT.lt {w : World} {v : Value} {t : Tab} (h : OwnT w v t) {g : Nat} (hg : v.ownBlock = some g) : g < w.heap.size := by
  rcases h with ⟨rfl, _⟩ | ⟨g', cap, cur, rfl, hh, _⟩
  · cases hg
  · cases hg; exact hh.lt
theorem OwnT.setOther {w : World} {v : Value} {t : Tab} (h : OwnT w v t) {a : Addr} (ha : v.ownBlock ≠ some a.block) (u : Value) : OwnT (w.setCell a u) v t := by
  rcases h with h | ⟨g, cap, cur, rfl, hh, hr⟩
  · exact .inl h
  · exact .inr ⟨g, cap, cur, rfl, hh.setOther (fun e => ha (by rw [e]; rfl)) u, hr⟩
/-- A TABLE IN MEMORY: its variable, the rows' slice, the rows. -/
structure TableAt (w : World) (p : Nat) (v : Value) (t : Tab) : Prop where
  row : RowV w p 153 #[v]
  own : OwnT w v t
  ne : v.ownBlock ≠ some p
theorem TableAt.lt {w : World} {p : Nat} {v : Value} {t : Tab} (h : TableAt w p v t) : p < w.heap.size := h.row.lt
theorem TableAt.only {w w' : World} {S : Nat → Prop} {p : Nat} {v : Value} {t : Tab} (h : TableAt w p v t) (ho : Only S w w') (hp : ¬ S p) (hg : ∀ g, v.ownBlock = some g → ¬ S g) : TableAt w' p v t := by
  refine ⟨h.row.only ho hp, ?_, h.ne⟩
  rcases h.own with hn | ⟨g, cap, cur, rfl, hh, hr⟩
  · exact .inl hn
  · exact .inr ⟨g, cap, cur, rfl, hh.only ho (hg g rfl), hr⟩
theorem TableAt.below {w w' : World} {p : Nat} {v : Value} {t : Tab} (h : TableAt w p v t) (hb : Below w.heap.size w w') : TableAt w' p v t :=
  h.only (Only.of_below hb) (by have := h.lt; omega) (fun g hg => by have := h.own.lt hg; omega)
/-- what the rows' slice looks like -/
theorem TableAt.slice {w : World} {p : Nat} {v : Value} {t : Tab} (h : TableAt w p v t) : ∃ A c g, v = .slice A t.length c ∧ t.length ≤ c ∧ c ≤ maxLen ∧ (A = none → t.length = 0 ∧ c = 0) ∧ (t ≠ [] → A = some ⟨g, 0, none⟩) ∧ RowsAt w g t ∧ (A = none ∨ (A = some ⟨g, 0, none⟩ ∧ g ≠ p)) := by
  rcases h.own with ⟨rfl, rfl⟩ | ⟨g, cap, cur, rfl, hh, hn, hm, hs, ht⟩
  · exact ⟨none, 0, 0, rfl, Nat.le_refl _, by unfold maxLen; omega, fun _ => ⟨rfl, rfl⟩, fun h => absurd rfl h, fun j hj => by simp at hj, .inl rfl⟩
  · refine ⟨some ⟨g, 0, none⟩, cap, g, rfl, hn, hm, (fun h => by cases h), fun _ => rfl, fun j hj => ?_, .inr ⟨rfl, fun e => h.ne (by rw [← e]; rfl)⟩⟩
    obtain ⟨h1, h2⟩ := cellsT_at t j hj
    have hat : ∀ q, q < t.length * 2 → w.cell? ⟨g, q, none⟩ = (cellsT t)[q]? := fun q hq => by
      rw [← ht]
      rw [List.getElem?_take_of_lt hq]
      have := cell_of_row w g q cur _ _ hh
      rw [this]; simp
    exact ⟨(hat _ (by omega)).trans h1, (hat _ (by omega)).trans h2⟩
theorem tableAt_new (w : World) : TableAt (w.alloc (.cells #[.slice none 0 0] 153)) w.heap.size (.slice none 0 0) [] :=
  ⟨RowV.new w _ _, .inl ⟨rfl, rfl⟩, by simp [Value.ownBlock]⟩
/-- a row's value is written over -/
theorem own_set {w : World} {g i : Nat} {t : Tab} {c : Nat} {k u : Bytes} (v : Bytes) (h : OwnT w (.slice (some ⟨g, 0, none⟩) t.length c) t) (hi : t[i]? = some (k, u)) :
    OwnT (w.setCell ⟨g, i * 2 + 1, none⟩ (S v)) (.slice (some ⟨g, 0, none⟩) t.length c) (t.set i (k, v)) := by
  obtain ⟨hlt, hiv⟩ := List.getElem?_eq_some_iff.1 hi
  rcases h with ⟨h0, _⟩ | ⟨g', cap, cur, h0, hr, hn, hm, hs, ht⟩
  · cases h0
  · simp only [Value.slice.injEq, Option.some.injEq, Addr.mk.injEq, and_true, true_and] at h0
    obtain ⟨rfl, rfl⟩ := h0
    refine .inr ⟨g, c, _, by rw [List.length_set], hr.setCell (i * 2 + 1) (S v), by rw [List.length_set]; exact hn, hm, by simpa using hs, ?_⟩
    have e1 : t.set i (k, v) = t.take i ++ (k, v) :: t.drop (i + 1) := List.set_eq_take_append_cons_drop .. |>.trans (by rw [if_pos hlt])
    have e2 : cellsT (t.set i (k, v)) = (cellsT t).set (i * 2 + 1) (S v) := by
      have e3 : t = t.take i ++ (k, u) :: t.drop (i + 1) := by
        conv => lhs; rw [← List.take_append_drop i t, List.drop_eq_getElem_cons hlt, hiv]
      have e4 : cellsT t = cellsT (t.take i) ++ S k :: S u :: cellsT (t.drop (i + 1)) := by
        conv => lhs; rw [e3, cellsT_append]
        simp [cellsT, flatT]
      have hl : (cellsT (t.take i)).length = i * 2 := by rw [cellsT_length, List.length_take]; omega
      rw [e1, cellsT_append, e4, List.set_append_right _ _ (by rw [hl]; omega), hl, show i * 2 + 1 - i * 2 = 1 by omega]
      simp [cellsT, flatT]
    rw [e2, ← ht, List.length_set, Array.toList_setIfInBounds, List.take_set]
/-- what set answers -/
def setE (t : Tab) (k : Bytes) : Int := if lookT t k = none ∧ t.length = 16 then 5 else 0
/-- where a table lies behind a change: the same place, its rows where they were or in new memory -/
structure Moved (w w' : World) (p : Nat) (v v' : Value) (t' : Tab) : Prop where
  at_ : TableAt w' p v' t'
  only : Only (fun b => b = p ∨ v.ownBlock = some b) w w'
  new : ∀ g, v'.ownBlock = some g → v.ownBlock = some g ∨ w.heap.size ≤ g
theorem own_free {w : World} {n c g : Nat} {t : Tab} (h : OwnT w (.slice (some ⟨g, 0, none⟩) n c) t) (j : Nat) : w.frozen? ⟨g, j, none⟩ = false := by
  rcases h with ⟨h0, _⟩ | ⟨g', cap, cur, h0, hh, _⟩
  · cases h0
  · simp only [Value.slice.injEq, Option.some.injEq, Addr.mk.injEq, and_true] at h0
    obtain ⟨rfl, -, -⟩ := h0
    exact hh.free j
theorem Moved.ofBelow {w w1 w' : World} {p : Nat} {v v' : Value} {t : Tab} (hb : Below w.heap.size w w1) (h : Moved w1 w' p v v' t) : Moved w w' p v v' t :=
  ⟨h.at_, ⟨h.only.os.trans hb.os, h.only.tape.trans hb.tape, h.only.output.trans hb.output, Nat.le_trans hb.size h.only.size, fun k hk hs => (h.only.block k (Nat.lt_of_lt_of_le hk hb.size) hs).trans (hb.block k hk)⟩, fun g hg => by
    rcases h.new g hg with h | h
    · exact .inl h
    · exact .inr (Nat.le_trans hb.size h)⟩
theorem Moved.refl {w : World} {p : Nat} {v : Value} {t : Tab} (h : TableAt w p v t) : Moved w w p v v t := ⟨h, Only.refl _ _, fun _ h => .inl h⟩
set_option maxRecDepth 100000 in
theorem set_there (t : Tab) (k u x : Bytes) (p : Nat) (v : Value) (w : World) (h : TableAt w p v t) (ht : TabOk t) (hk : lookT t k = some u) :
    Calls Tryd.prog 80 #[.pointer (some ⟨p, 0, none⟩), S k, S x] w fun e w' => e = .returned (.int .i64 0) ∧ Moved w w' p v v (setT t k x) := by
  obtain ⟨A, c, g, rfl, hc1, hc2, hnil, hsome, hr, hA⟩ := h.slice
  have hs := look_some hk
  obtain ⟨hlt, hv⟩ := List.getElem?_eq_some_iff.1 hs
  have hne : t ≠ [] := by intro e; subst e; simp at hlt
  obtain rfl := hsome hne
  have hp : w.cell? ⟨p, 0, none⟩ = some (.slice (some ⟨g, 0, none⟩) t.length c) := h.row.cell 0
  have hst : (lookT t k).isSome = true := by rw [hk]; rfl
  have hgl : g < w.heap.size := h.own.lt rfl
  have HH := Lib.hid h; have HT := Lib.hid ht; have HR := Lib.hid hr; have HK := Lib.hid hk; have HS := Lib.hid hs
  clear h ht hr hA hsome hnil hk hs hv
  go_enter Tryd.func80, Tryd.ntmps80
  go_wp2_with (go_at_call 79; refine (find_any t k _ c g p w hp (fun _ => rfl) HT.out HR.out).mono ?_; rintro e w1 ⟨rfl, hb⟩; have hp1 := (hb.cell (p := ⟨p, 0, none⟩) HH.out.lt).trans hp; obtain ⟨ha, hb2⟩ := (HR.out.below hb) _ hlt; have hf1 := own_free (HH.out.below hb).own (aheadT k t * 2 + 1))
  go_ret
  have h1 := HH.out.below hb
  refine ⟨rfl, Moved.ofBelow hb ⟨⟨h1.row.setOther (by intro e; exact h1.ne (by rw [← e]; rfl)) _, ?_, h1.ne⟩, (Only.refl _ _).setCell (.inl (.inr rfl)) _, fun _ h => .inl h⟩⟩
  rw [setT_some HK.out]
  exact own_set x h1.own HS.out
set_option maxRecDepth 100000 in
theorem set_full (t : Tab) (k x : Bytes) (p : Nat) (v : Value) (w : World) (h : TableAt w p v t) (ht : TabOk t) (hk : lookT t k = none) (h16 : t.length = 16) :
    Calls Tryd.prog 80 #[.pointer (some ⟨p, 0, none⟩), S k, S x] w fun e w' => e = .returned (.int .i64 5) ∧ Below w.heap.size w w' := by
  obtain ⟨A, c, g, rfl, hc1, hc2, hnil, hsome, hr, hA⟩ := h.slice
  have hp : w.cell? ⟨p, 0, none⟩ = some (.slice A t.length c) := h.row.cell 0
  have hst : (lookT t k).isSome = false := by rw [hk]; rfl
  have h16 : (t.length : Int) = 16 := by omega
  have HH := Lib.hid h; have HT := Lib.hid ht; have HR := Lib.hid hr; have HS := Lib.hid hsome
  clear h ht hr hA hsome hnil hk
  go_enter Tryd.func80, Tryd.ntmps80
  go_wp2_with (go_at_call 79; refine (find_any t k _ c g p w hp HS.out HT.out HR.out).mono ?_; rintro e w1 ⟨rfl, hb⟩; have hp1 := (hb.cell (p := ⟨p, 0, none⟩) HH.out.lt).trans hp)
  go_ret
  exact ⟨rfl, hb⟩
/-- the rows from a place on, as a slice -/
theorem src_rest {P : Program} {w : World} {tx : TypeId} {A : Option Addr} {c g i : Nat} {t : Tab} (hk : P.underlying tx = some (.slice 163)) (hi : i ≤ t.length) (hc : t.length ≤ c) (hnil : A = none → t.length = 0 ∧ c = 0) (hA : A = none ∨ A = some ⟨g, 0, none⟩) (hr : RowsAt w g t) :
    Src P 2 tx (sliced A i t.length c 2) (t.length - i) (cellsT (t.drop i)) w := by
  have hl : (cellsT (t.drop i)).length = (t.length - i) * 2 := by rw [cellsT_length, List.length_drop]
  rcases hA with rfl | rfl
  · obtain ⟨h0, rfl⟩ := hnil rfl
    have : t = [] := List.eq_nil_of_length_eq_zero h0
    subst this
    obtain rfl : i = 0 := by simpa using hi
    exact Src.ofNil w hk 0
  · have hone := cellsT_one (t.drop i)
    unfold sliced
    split
    · rename_i hz
      have h0 : t.length - i = 0 := by omega
      rw [h0] at hl ⊢
      have : cellsT (t.drop i) = [] := List.eq_nil_of_length_eq_zero (by omega)
      rw [this]
      exact Src.ofSlice w hk _ 0 _ [] (by simp) (fun j u h => by simp at h) (fun u h => by cases h)
    · refine Src.ofSlice w hk _ _ _ _ hl (fun j u hu => ?_) hone
      rw [cellsT_drop, List.getElem?_drop] at hu
      have hadd : ((⟨g, 0, none⟩ : Addr).add (i * 2)).add j = ⟨g, i * 2 + j, none⟩ := by
        have a1 : (⟨g, 0, none⟩ : Addr).add (i * 2) = ⟨g, i * 2, none⟩ := by unfold Addr.add; split <;> simp_all
        rw [a1]; unfold Addr.add; split <;> simp_all
      rw [hadd]
      have hlt := (List.getElem?_eq_some_iff.1 hu).1
      rw [cellsT_length] at hlt
      obtain ⟨q, hq⟩ : ∃ q, i * 2 + j = q * 2 ∨ i * 2 + j = q * 2 + 1 := ⟨(i * 2 + j) / 2, by omega⟩
      rcases hq with hq | hq
      · rw [hq] at hu ⊢
        have hql : q < t.length := by omega
        rw [(cellsT_at t q hql).1] at hu
        rw [(hr q hql).1, hu]
      · rw [hq] at hu ⊢
        have hql : q < t.length := by omega
        rw [(cellsT_at t q hql).2] at hu
        rw [(hr q hql).2, hu]
end Go.Proofs.YtocgnkenlfdffaaDoor
