/- package seal: Party. -/
import Derived.Test.YtocgnkenlfdffaaDoorSeal4
namespace Go.Wap
/-- the party of a name -/
def partyF (s : Bytes) : Option (Int × Int) :=
  match unpack s with
  | some [a, b] => match toNum a, toNum b with
    | some g, some n => if IsP g n then some (g, n) else none
    | _, _ => none
  | _ => none
end Go.Wap
namespace Go.Proofs.YtocgnkenlfdffaaDoor
open Go Go.RowKit Go.Wap
theorem unpack_yes (s : Bytes) (l : List Bytes) (w : World) (h : unpack s = some l) (hs : s.length < 4294967281) (hg : Glob w) :
    Calls Tryd.prog 42 #[S s] w fun e w' => ∃ A c, e = .returned (.tuple #[.slice A l.length c, .int .i64 0]) ∧ Strs w' (.slice A l.length c) l ∧ Below w.heap.size w w' :=
  (unpack_any s w hs hg).mono fun e w' ⟨⟨v, x, he, hu⟩, hb⟩ => by
    rcases hu with ⟨l', h', hx, hst⟩ | ⟨h', _, _⟩
    · rw [h] at h'; cases h'; subst hx
      have hst' := hst
      obtain ⟨A, c, rfl, -⟩ := hst
      exact ⟨A, c, he, hst', hb⟩
    · rw [h] at h'; cases h'
theorem unpack_nope (s : Bytes) (w : World) (h : unpack s = none) (hs : s.length < 4294967281) (hg : Glob w) :
    Calls Tryd.prog 42 #[S s] w fun e w' => e = .returned (.tuple #[.slice none 0 0, .int .i64 4]) ∧ Below w.heap.size w w' :=
  (unpack_any s w hs hg).mono fun e w' ⟨⟨v, x, he, hu⟩, hb⟩ => by
    rcases hu with ⟨l', h', hx, hst⟩ | ⟨_, hx, hv⟩
    · rw [h] at h'; cases h'
    · subst hx; subst hv; exact ⟨he, hb⟩
theorem Strs.at {w : World} {A : Option Addr} {k c : Nat} {l : List Bytes} (h : Strs w (.slice A k c) l) (hl : l ≠ []) : ∃ g o, A = some ⟨g, o, none⟩ ∧ ∀ j (hj : j < l.length), w.cell? ⟨g, o + j, none⟩ = some (S l[j]) := by
  obtain ⟨A', c', he, h⟩ := h
  cases he
  exact h hl
abbrev zP : Array Value := #[.int .i64 0, .int .i64 0]
theorem parUnder : ∃ fs, Tryd.prog.underlying 23 = some (.struct fs) := ⟨_, Tryd.underlying23⟩
def parV (o : Option (Int × Int)) : Value := match o with | some p => .tuple #[pV p.1 p.2, .int .i64 0] | none => .tuple #[pV 0 0, .int .i64 4]
set_option maxRecDepth 100000 in
set_option maxHeartbeats 4000000 in
theorem party_any (s : Bytes) (w : World) (hs : s.length < 4294967281) (hg : Glob w) :
    Calls Tryd.prog 43 #[S s] w fun e w' => e = .returned (parV (partyF s)) ∧ Below w.heap.size w w' := by
  obtain ⟨fs, hfs⟩ := parUnder
  have hb0 := (Below.refl w.heap.size w).alloc (Nat.le_refl _) (.cells zP 23)
  have r0 := RowV.new w 23 zP
  have HG := Lib.hid (hg.next hb0); clear hg
  have HR := Lib.hid r0; clear r0
  cases hu : unpack s with
  | none =>
    have hp : partyF s = none := by unfold partyF; rw [hu]
    rw [hp]
    go_enter Tryd.func43, Tryd.ntmps43
    go_wp2_with (first | (go_at_call 42; refine (unpack_nope s _ hu hs HG.out).mono ?_; rintro e w1 ⟨rfl, hb1⟩; have r1 := Lib.hid (HR.out.below hb1 (by simp)); have hb2 := hb0.trans (hb1.mono hb0.size)) | (refine wpList_store_row rfl 23 (.tmp 2) (.tmp 22) rfl w.heap.size zP rfl rfl 23 zP r1.out (by kernel_rfl) rfl (by simp [Value.oneCell']) ?_))
    refine bodyPost_ret (results_row_tmp rfl _ rfl (r1.out.set _) hfs rfl (by kernel_rfl)) rfl ?_
    exact ⟨rfl, below_setRow hb2 (Nat.le_refl _)⟩
  | some l =>
    by_cases hl : l.length = 2
    · obtain ⟨a, b, rfl⟩ : ∃ a b, l = [a, b] := by
        match l, hl with
        | [a, b], _ => exact ⟨a, b, rfl⟩
      have ha2 : a.length ≤ 281474976710656 ∧ b.length ≤ 281474976710656 := by
        have h1 := (unpack_some.1 hu).2
        exact ⟨by have := h1 a (by simp); omega, by have := h1 b (by simp); omega⟩
      obtain ⟨hal, hbl⟩ := ha2
      cases ha : toNum a with
      | none =>
        have hp : partyF s = none := by unfold partyF; rw [hu]; simp only [ha]
        rw [hp]
        obtain ⟨vb, xb, hbC⟩ : ∃ vb xb : Int, ∀ w, Glob w → Calls Tryd.prog 50 #[S b] w fun e w' => e = .returned (.tuple #[.int .i64 vb, .int .i64 xb]) ∧ Below w.heap.size w w' := by
          cases hb : toNum b with
          | none => exact ⟨0, 4, fun w hg => tonum_no b w hb hbl hg⟩
          | some v => exact ⟨v, 0, fun w hg => tonum_ok b v w hb hbl hg⟩
        have HA := Lib.hid ha; have HB := Lib.hid hbC; clear ha hbC hp
        go_enter Tryd.func43, Tryd.ntmps43
        go_wp2_with (first | (go_at_call 42; refine (unpack_yes s [a, b] _ hu hs HG.out).mono ?_; rintro e w1 ⟨A, c, rfl, hst, hb1⟩; have HG1 := Lib.hid (HG.out.next hb1); have r1 := Lib.hid (HR.out.below hb1 (by simp)); have hb2 := hb0.trans (hb1.mono hb0.size); obtain ⟨gg, o, rfl, hcs⟩ := hst.at (by simp); have ca := hcs 0 (by simp); have cb := hcs 1 (by simp); simp only [Nat.add_zero, List.getElem_cons_zero, List.getElem_cons_succ] at ca cb; have hgl := World.block_lt_of_cell? w1 ⟨gg, o, none⟩ ca; clear hcs hst) | (go_at_call 50; refine (HB.out w2 HG2.out).mono ?_; rintro e w3 ⟨rfl, hb3⟩; have HG3 := Lib.hid (HG2.out.next hb3); have r3 := Lib.hid (r2.out.below hb3 r2.out.lt); have hb4 := hb5.trans (hb3.mono hb5.size)) | (go_at_call 50; refine (tonum_no a w1 HA.out hal HG1.out).mono ?_; rintro e w2 ⟨rfl, hb3⟩; have HG2 := Lib.hid (HG1.out.next hb3); have cb2 := (hb3.cell (p := ⟨gg, o + 1, none⟩) hgl).trans cb; have r2 := Lib.hid (r1.out.below hb3 r1.out.lt); have hb5 := hb2.trans (hb3.mono hb2.size); clear ca cb) | (refine wpList_store_row rfl 23 (.tmp 2) (.tmp 51) rfl w.heap.size zP rfl rfl 23 zP (r3.out.alloc _) (by kernel_rfl) rfl (by simp [Value.oneCell']) ?_))
        refine bodyPost_ret (results_row_tmp rfl _ rfl ((r3.out.alloc _).set _) hfs rfl (by kernel_rfl)) rfl ?_
        exact ⟨rfl, below_setRow (hb4.alloc hb4.size _) (Nat.le_refl _)⟩
      | some va =>
        cases hb : toNum b with
        | none =>
          have hp : partyF s = none := by unfold partyF; rw [hu]; simp only [ha, hb]
          rw [hp]
          have HA := Lib.hid ha; have HB := Lib.hid hb; clear ha hb hp
          go_enter Tryd.func43, Tryd.ntmps43
          go_wp2_with (first | (go_at_call 42; refine (unpack_yes s [a, b] _ hu hs HG.out).mono ?_; rintro e w1 ⟨A, c, rfl, hst, hb1⟩; have HG1 := Lib.hid (HG.out.next hb1); have r1 := Lib.hid (HR.out.below hb1 (by simp)); have hb2 := hb0.trans (hb1.mono hb0.size); obtain ⟨gg, o, rfl, hcs⟩ := hst.at (by simp); have ca := hcs 0 (by simp); have cb := hcs 1 (by simp); simp only [Nat.add_zero, List.getElem_cons_zero, List.getElem_cons_succ] at ca cb; have hgl := World.block_lt_of_cell? w1 ⟨gg, o, none⟩ ca; clear hcs hst) | (go_at_call 50; refine (tonum_no b w2 HB.out hbl HG2.out).mono ?_; rintro e w3 ⟨rfl, hb3⟩; have HG3 := Lib.hid (HG2.out.next hb3); have r3 := Lib.hid (r2.out.below hb3 r2.out.lt); have hb4 := hb5.trans (hb3.mono hb5.size)) | (go_at_call 50; refine (tonum_ok a va w1 HA.out hal HG1.out).mono ?_; rintro e w2 ⟨rfl, hb3⟩; have HG2 := Lib.hid (HG1.out.next hb3); have cb2 := (hb3.cell (p := ⟨gg, o + 1, none⟩) hgl).trans cb; have r2 := Lib.hid (r1.out.below hb3 r1.out.lt); have hb5 := hb2.trans (hb3.mono hb2.size); clear ca cb) | (refine wpList_store_row rfl 23 (.tmp 2) (.tmp 51) rfl w.heap.size zP rfl rfl 23 zP (r3.out.alloc _) (by kernel_rfl) rfl (by simp [Value.oneCell']) ?_))
          refine bodyPost_ret (results_row_tmp rfl _ rfl ((r3.out.alloc _).set _) hfs rfl (by kernel_rfl)) rfl ?_
          exact ⟨rfl, below_setRow (hb4.alloc hb4.size _) (Nat.le_refl _)⟩
        | some vb =>
          have HA := Lib.hid ha; have HB := Lib.hid hb
          by_cases hip : IsP va vb
          · have hp : partyF s = some (va, vb) := by unfold partyF; rw [hu]; simp only [ha, hb, if_pos hip]
            have hd : decide (IsP va vb) = true := by simp [hip]
            rw [hp]
            clear ha hb hp
            go_enter Tryd.func43, Tryd.ntmps43
            go_wp2_with (first | (go_at_call 42; refine (unpack_yes s [a, b] _ hu hs HG.out).mono ?_; rintro e w1 ⟨A, c, rfl, hst, hb1⟩; have HG1 := Lib.hid (HG.out.next hb1); have r1 := Lib.hid (HR.out.below hb1 (by simp)); have hb2 := hb0.trans (hb1.mono hb0.size); obtain ⟨gg, o, rfl, hcs⟩ := hst.at (by simp); have ca := hcs 0 (by simp); have cb := hcs 1 (by simp); simp only [Nat.add_zero, List.getElem_cons_zero, List.getElem_cons_succ] at ca cb; have hgl := World.block_lt_of_cell? w1 ⟨gg, o, none⟩ ca; clear hcs hst) | (go_at_call 50; refine (tonum_ok b vb w2 HB.out hbl HG2.out).mono ?_; rintro e w3 ⟨rfl, hb3⟩; have HG3 := Lib.hid (HG2.out.next hb3); have r3 := Lib.hid (r2.out.below hb3 r2.out.lt); have hb4 := hb5.trans (hb3.mono hb5.size); have hb7 := hb4.alloc hb4.size (.cells #[.int .i64 va, .int .i64 vb] 23); have r4 := Lib.hid (r3.out.alloc (.cells #[.int .i64 va, .int .i64 vb] 23)); have q4 := Lib.hid (RowV.new w3 23 #[.int .i64 va, .int .i64 vb])) | (go_at_call 50; refine (tonum_ok a va w1 HA.out hal HG1.out).mono ?_; rintro e w2 ⟨rfl, hb3⟩; have HG2 := Lib.hid (HG1.out.next hb3); have cb2 := (hb3.cell (p := ⟨gg, o + 1, none⟩) hgl).trans cb; have r2 := Lib.hid (r1.out.below hb3 r1.out.lt); have hb5 := hb2.trans (hb3.mono hb2.size); clear ca cb) | (go_at_call 64; refine (is_any va vb _).mono ?_; rw [hd]; rintro e w5 ⟨rfl, hb6⟩; have r5 := Lib.hid (r4.out.below hb6 r4.out.lt); have q5 := q4.out.below hb6 q4.out.lt; have c0 := cell_of_row w5 w3.heap.size 0 _ _ _ q5; have c1 := cell_of_row w5 w3.heap.size 1 _ _ _ q5; simp only [List.getElem?_toArray, List.getElem?_cons_zero, List.getElem?_cons_succ] at c0 c1; have hb8 := hb7.trans (hb6.mono hb7.size); clear q5) | (refine wpList_store_row rfl 23 (.tmp 2) (.tmp 52) rfl w.heap.size #[.int .i64 va, .int .i64 vb] rfl rfl 23 zP r5.out (by kernel_rfl) rfl (by simp [Value.oneCell']) ?_))
            refine bodyPost_ret (results_row_tmp rfl _ rfl (r5.out.set _) hfs rfl (by kernel_rfl)) rfl ?_
            exact ⟨rfl, below_setRow hb8 (Nat.le_refl _)⟩
          · have hp : partyF s = none := by unfold partyF; rw [hu]; simp only [ha, hb, if_neg hip]
            have hd : decide (IsP va vb) = false := by simp [hip]
            rw [hp]
            clear ha hb hp
            go_enter Tryd.func43, Tryd.ntmps43
            go_wp2_with (first | (go_at_call 42; refine (unpack_yes s [a, b] _ hu hs HG.out).mono ?_; rintro e w1 ⟨A, c, rfl, hst, hb1⟩; have HG1 := Lib.hid (HG.out.next hb1); have r1 := Lib.hid (HR.out.below hb1 (by simp)); have hb2 := hb0.trans (hb1.mono hb0.size); obtain ⟨gg, o, rfl, hcs⟩ := hst.at (by simp); have ca := hcs 0 (by simp); have cb := hcs 1 (by simp); simp only [Nat.add_zero, List.getElem_cons_zero, List.getElem_cons_succ] at ca cb; have hgl := World.block_lt_of_cell? w1 ⟨gg, o, none⟩ ca; clear hcs hst) | (go_at_call 50; refine (tonum_ok b vb w2 HB.out hbl HG2.out).mono ?_; rintro e w3 ⟨rfl, hb3⟩; have HG3 := Lib.hid (HG2.out.next hb3); have r3 := Lib.hid (r2.out.below hb3 r2.out.lt); have hb4 := hb5.trans (hb3.mono hb5.size); have hb7 := hb4.alloc hb4.size (.cells #[.int .i64 va, .int .i64 vb] 23); have r4 := Lib.hid (r3.out.alloc (.cells #[.int .i64 va, .int .i64 vb] 23)); have q4 := Lib.hid (RowV.new w3 23 #[.int .i64 va, .int .i64 vb])) | (go_at_call 50; refine (tonum_ok a va w1 HA.out hal HG1.out).mono ?_; rintro e w2 ⟨rfl, hb3⟩; have HG2 := Lib.hid (HG1.out.next hb3); have cb2 := (hb3.cell (p := ⟨gg, o + 1, none⟩) hgl).trans cb; have r2 := Lib.hid (r1.out.below hb3 r1.out.lt); have hb5 := hb2.trans (hb3.mono hb2.size); clear ca cb) | (go_at_call 64; refine (is_any va vb _).mono ?_; rw [hd]; rintro e w5 ⟨rfl, hb6⟩; have r5 := Lib.hid (r4.out.below hb6 r4.out.lt); have q5 := q4.out.below hb6 q4.out.lt; have c0 := cell_of_row w5 w3.heap.size 0 _ _ _ q5; have c1 := cell_of_row w5 w3.heap.size 1 _ _ _ q5; simp only [List.getElem?_toArray, List.getElem?_cons_zero, List.getElem?_cons_succ] at c0 c1; have hb8 := hb7.trans (hb6.mono hb7.size); clear q5) | (refine wpList_store_row rfl 23 (.tmp 2) (.tmp 51) rfl w.heap.size zP rfl rfl 23 zP r5.out (by kernel_rfl) rfl (by simp [Value.oneCell']) ?_))
            refine bodyPost_ret (results_row_tmp rfl _ rfl (r5.out.set _) hfs rfl (by kernel_rfl)) rfl ?_
            exact ⟨rfl, below_setRow hb8 (Nat.le_refl _)⟩
    · have hp : partyF s = none := by
        unfold partyF; rw [hu]
        match l, hl with
        | [], _ => rfl
        | [a], _ => rfl
        | [a, b], h => exact absurd rfl h
        | a :: b :: c :: d, _ => rfl
      rw [hp]
      have hlb : ((l.length : Int) != 2) = true := by simp; omega
      go_enter Tryd.func43, Tryd.ntmps43
      go_wp2_with (first | (go_at_call 42; refine (unpack_yes s l _ hu hs HG.out).mono ?_; rintro e w1 ⟨A, c, rfl, hst, hb1⟩; have r1 := Lib.hid (HR.out.below hb1 (by simp)); have hb2 := hb0.trans (hb1.mono hb0.size)) | (refine wpList_store_row rfl 23 (.tmp 2) (.tmp 22) rfl w.heap.size zP rfl rfl 23 zP r1.out (by kernel_rfl) rfl (by simp [Value.oneCell']) ?_))
      refine bodyPost_ret (results_row_tmp rfl _ rfl (r1.out.set _) hfs rfl (by kernel_rfl)) rfl ?_
      exact ⟨rfl, below_setRow hb2 (Nat.le_refl _)⟩
end Go.Proofs.YtocgnkenlfdffaaDoor
