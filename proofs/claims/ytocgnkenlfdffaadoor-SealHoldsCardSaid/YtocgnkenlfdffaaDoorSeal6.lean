/- package seal: Decode. -/
import Derived.Test.YtocgnkenlfdffaaDoorSeal5
namespace Go.Wap
/-- what bytes say was signed -/
def decodeF (s : Bytes) : Option (Int × Int × Bytes × Bytes) :=
  match unpack s with
  | some [p, X, T] => if T.length = 16 then (partyF p).map fun q => (q.1, q.2, X, T) else none
  | _ => none
end Go.Wap
namespace Go.Proofs.YtocgnkenlfdffaaDoor
open Go Go.RowKit Go.Wap
def sgnV (o : Option (Int × Int × Bytes × Bytes)) : Value := match o with | some p => .tuple #[sV p.1 p.2.1 p.2.2.1 p.2.2.2, .int .i64 0] | none => .tuple #[sV 0 0 [] [], .int .i64 4]
theorem RowV.setCell {W : World} {g i : Nat} {t : TypeId} {cs : Array Value} (h : RowV W g t cs) (v : Value) : RowV (W.setCell ⟨g, i, none⟩ v) g t (cs.setIfInBounds i v) := heap_setCell_same W g i cs t v h
set_option maxRecDepth 100000 in
set_option maxHeartbeats 4000000 in
theorem decode_any (s : Bytes) (w : World) (hs : s.length < 4294967281) (hg : Glob w) :
    Calls Tryd.prog 15 #[S s] w fun e w' => e = .returned (sgnV (decodeF s)) ∧ Below w.heap.size w w' := by
  obtain ⟨fs, hfs⟩ := sgnUnder
  have hb0 := (Below.refl w.heap.size w).alloc (Nat.le_refl _) (.cells zS 25)
  have r0 := RowV.new w 25 zS
  have HG := Lib.hid (hg.next hb0); clear hg
  have HR := Lib.hid r0; clear r0
  cases hu : unpack s with
  | none =>
    have hp : decodeF s = none := by unfold decodeF; rw [hu]
    rw [hp]
    go_enter Tryd.func15, Tryd.ntmps15
    go_wp2_with (first | (go_at_call 42; refine (unpack_nope s _ hu hs HG.out).mono ?_; rintro e w1 ⟨rfl, hb1⟩; have r1 := Lib.hid (HR.out.below hb1 (by simp)); have hb2 := hb0.trans (hb1.mono hb0.size)) | (refine wpList_store_row rfl 25 (.tmp 2) (.tmp 26) rfl w.heap.size zS rfl rfl 25 zS r1.out (by kernel_rfl) rfl (by simp [Value.oneCell']) ?_))
    refine bodyPost_ret (results_row_tmp rfl _ rfl (r1.out.set _) hfs rfl (by kernel_rfl)) rfl ?_
    exact ⟨rfl, below_setRow hb2 (Nat.le_refl _)⟩
  | some l =>
    by_cases hl : l.length = 3
    · obtain ⟨p, X, T, rfl⟩ : ∃ p X T, l = [p, X, T] := by
        match l, hl with
        | [a, b, c], _ => exact ⟨a, b, c, rfl⟩
      by_cases hT : T.length = 16
      · have hpl : p.length < 4294967281 := by
          have h1 := (unpack_some.1 hu).2 p (by simp); omega
        cases hpp : partyF p with
        | none =>
          have hp : decodeF s = none := by unfold decodeF; rw [hu]; simp only [if_pos hT, hpp, Option.map_none]
          rw [hp]
          have hpar : parV (partyF p) = .tuple #[pV 0 0, .int .i64 4] := by rw [hpp]; rfl
          have HP := Lib.hid hpar; clear hpp hp hpar
          go_enter Tryd.func15, Tryd.ntmps15
          go_wp2_with (first | (go_at_call 42; refine (unpack_yes s [p, X, T] _ hu hs HG.out).mono ?_; rintro e w1 ⟨A, c, rfl, hst, hb1⟩; have HG1 := Lib.hid (HG.out.next hb1); have r1 := Lib.hid (HR.out.below hb1 (by simp)); have hb2 := hb0.trans (hb1.mono hb0.size); obtain ⟨gg, o, rfl, hcs⟩ := hst.at (by simp); have ca := hcs 0 (by simp); have cb := hcs 1 (by simp); have cc := hcs 2 (by simp); simp only [Nat.add_zero, List.getElem_cons_zero, List.getElem_cons_succ] at ca cb cc; have hgl := World.block_lt_of_cell? w1 ⟨gg, o, none⟩ ca; clear hcs hst) | (go_at_call 43; refine (party_any p w1 hpl HG1.out).mono ?_; rw [HP.out]; rintro e w2 ⟨rfl, hb3⟩; have r2 := Lib.hid (r1.out.below hb3 r1.out.lt); have hb5 := hb2.trans (hb3.mono hb2.size); have cb2 := (hb3.cell (p := ⟨gg, o + 1, none⟩) hgl).trans cb; have cc2 := (hb3.cell (p := ⟨gg, o + 2, none⟩) hgl).trans cc; clear ca cb cc) | (refine wpList_store_row rfl 25 (.tmp 2) (.tmp 36) rfl w.heap.size zS rfl rfl 25 zS (r2.out.alloc _) (by kernel_rfl) rfl (by simp [Value.oneCell']) ?_))
          refine bodyPost_ret (results_row_tmp rfl _ rfl ((r2.out.alloc _).set _) hfs rfl (by kernel_rfl)) rfl ?_
          exact ⟨rfl, below_setRow (hb5.alloc hb5.size _) (Nat.le_refl _)⟩
        | some q =>
          obtain ⟨q1, q2⟩ := q
          have hp : decodeF s = some (q1, q2, X, T) := by unfold decodeF; rw [hu]; simp only [if_pos hT, hpp, Option.map_some]
          rw [hp]
          have hpar : parV (partyF p) = .tuple #[pV q1 q2, .int .i64 0] := by rw [hpp]; rfl
          have HP := Lib.hid hpar; clear hpp hp hpar
          go_enter Tryd.func15, Tryd.ntmps15
          go_upto_region 7 with (first | (go_at_call 42; refine (unpack_yes s [p, X, T] _ hu hs HG.out).mono ?_; rintro e w1 ⟨A, c, rfl, hst, hb1⟩; have HG1 := Lib.hid (HG.out.next hb1); have r1 := Lib.hid (HR.out.below hb1 (by simp)); have hb2 := hb0.trans (hb1.mono hb0.size); obtain ⟨gg, o, rfl, hcs⟩ := hst.at (by simp); have ca := hcs 0 (by simp); have cb := hcs 1 (by simp); have cc := hcs 2 (by simp); simp only [Nat.add_zero, List.getElem_cons_zero, List.getElem_cons_succ] at ca cb cc; have hgl := World.block_lt_of_cell? w1 ⟨gg, o, none⟩ ca; clear hcs hst) | (go_at_call 43; refine (party_any p w1 hpl HG1.out).mono ?_; rw [HP.out]; rintro e w2 ⟨rfl, hb3⟩; have hsz2 := hb3.size; have r2 := Lib.hid (r1.out.below hb3 r1.out.lt); have hb5 := hb2.trans (hb3.mono hb2.size); have cb2 := (hb3.cell (p := ⟨gg, o + 1, none⟩) hgl).trans cb; have cc2 := (hb3.cell (p := ⟨gg, o + 2, none⟩) hgl).trans cc; clear ca cb cc))
          have r3 := r2.out.alloc (.cells #[.int .i64 q1, .int .i64 q2] 23)
          have p3 := RowV.new w2 23 #[.int .i64 q1, .int .i64 q2]
          have hb6 := hb5.alloc hb5.size (.cells #[.int .i64 q1, .int .i64 q2] 23)
          have cb3 := (((Below.refl w2.heap.size w2).alloc (Nat.le_refl _) (.cells #[.int .i64 q1, .int .i64 q2] 23)).cell (p := ⟨gg, o + 1, none⟩) (by show gg < _; omega)).trans cb2
          have cc3 := (((Below.refl w2.heap.size w2).alloc (Nat.le_refl _) (.cells #[.int .i64 q1, .int .i64 q2] 23)).cell (p := ⟨gg, o + 2, none⟩) (by show gg < _; omega)).trans cc2
          generalize w2.alloc (.cells #[.int .i64 q1, .int .i64 q2] 23) = W at r3 p3 hb6 cb3 cc3 ⊢
          have x0 := cell_of_row W w.heap.size 0 _ _ _ r3; have x1 := cell_of_row W w.heap.size 1 _ _ _ r3; have x2 := cell_of_row W w.heap.size 2 _ _ _ r3; have x3 := cell_of_row W w.heap.size 3 _ _ _ r3
          have y0 := cell_of_row W w2.heap.size 0 _ _ _ p3; have y1 := cell_of_row W w2.heap.size 1 _ _ _ p3
          simp only [List.getElem?_toArray, List.getElem?_cons_zero, List.getElem?_cons_succ] at x0 x1 x2 x3 y0 y1
          have hfz : ∀ j, W.frozen? ⟨w.heap.size, j, none⟩ = false := fun j => by simp only [World.frozen?]; rw [show W.heap[w.heap.size]? = _ from r3]; simp
          have f0 := hfz 0; have f1 := hfz 1; have f2 := hfz 2; have f3 := hfz 3
          have R3 := Lib.hid r3; have B6 := Lib.hid hb6
          clear r3 p3 hfz cb2 cc2 hb5 r2 hb3 hb2 hb1 hb0 HG HG1 HP hb6 hu HR r1 hl
          go_region
          have R4 := ((((R3.out.setCell (i := 0) (.int .i64 q1)).setCell (i := 1) (.int .i64 q2)).setCell (i := 2) (S X)).setCell (i := 3) (S T))
          have B4 := ((((B6.out.setCell (p := ⟨w.heap.size, 0, none⟩) (Nat.le_refl _) (.int .i64 q1)).setCell (p := ⟨w.heap.size, 1, none⟩) (Nat.le_refl _) (.int .i64 q2)).setCell (p := ⟨w.heap.size, 2, none⟩) (Nat.le_refl _) (S X)).setCell (p := ⟨w.heap.size, 3, none⟩) (Nat.le_refl _) (S T)).drew
          have R5 : RowV ((((W.setCell ⟨w.heap.size, 0, none⟩ (.int .i64 q1)).setCell ⟨w.heap.size, 1, none⟩ (.int .i64 q2)).setCell ⟨w.heap.size, 2, none⟩ (S X)).setCell ⟨w.heap.size, 3, none⟩ (S T)).drew w.heap.size 25 #[.int .i64 q1, .int .i64 q2, S X, S T] := R4
          clear x0 x1 x2 x3 y0 y1 f0 f1 f2 f3 cb3 cc3 R4
          go_wp2_with fail
          refine bodyPost_ret (results_row_tmp rfl _ rfl R5 hfs rfl (by kernel_rfl)) rfl ?_
          exact ⟨rfl, B4⟩
      · have hp : decodeF s = none := by unfold decodeF; rw [hu]; simp only [if_neg hT]
        rw [hp]
        have hlb : ((T.length : Int) != 16) = true := by simp; omega
        go_enter Tryd.func15, Tryd.ntmps15
        go_wp2_with (first | (go_at_call 42; refine (unpack_yes s [p, X, T] _ hu hs HG.out).mono ?_; rintro e w1 ⟨A, c, rfl, hst, hb1⟩; have r1 := Lib.hid (HR.out.below hb1 (by simp)); have hb2 := hb0.trans (hb1.mono hb0.size); obtain ⟨gg, o, rfl, hcs⟩ := hst.at (by simp); have cc := hcs 2 (by simp); simp only [List.getElem_cons_zero, List.getElem_cons_succ] at cc; clear hcs hst) | (refine wpList_store_row rfl 25 (.tmp 2) (.tmp 26) rfl w.heap.size zS rfl rfl 25 zS r1.out (by kernel_rfl) rfl (by simp [Value.oneCell']) ?_))
        refine bodyPost_ret (results_row_tmp rfl _ rfl (r1.out.set _) hfs rfl (by kernel_rfl)) rfl ?_
        exact ⟨rfl, below_setRow hb2 (Nat.le_refl _)⟩
    · have hp : decodeF s = none := by
        unfold decodeF; rw [hu]
        match l, hl with
        | [], _ => rfl
        | [a], _ => rfl
        | [a, b], _ => rfl
        | [a, b, c], h => exact absurd rfl h
        | a :: b :: c :: d :: e, _ => rfl
      rw [hp]
      have hlb : ((l.length : Int) != 3) = true := by simp; omega
      go_enter Tryd.func15, Tryd.ntmps15
      go_wp2_with (first | (go_at_call 42; refine (unpack_yes s l _ hu hs HG.out).mono ?_; rintro e w1 ⟨A, c, rfl, hst, hb1⟩; have r1 := Lib.hid (HR.out.below hb1 (by simp)); have hb2 := hb0.trans (hb1.mono hb0.size)) | (refine wpList_store_row rfl 25 (.tmp 2) (.tmp 26) rfl w.heap.size zS rfl rfl 25 zS r1.out (by kernel_rfl) rfl (by simp [Value.oneCell']) ?_))
      refine bodyPost_ret (results_row_tmp rfl _ rfl (r1.out.set _) hfs rfl (by kernel_rfl)) rfl ?_
      exact ⟨rfl, below_setRow hb2 (Nat.le_refl _)⟩
end Go.Proofs.YtocgnkenlfdffaaDoor
