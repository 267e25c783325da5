/- nest.texts: the iterator over a list's text. -/
import Derived.Test.YtocgnkenlfdffaaDoorSeq
import Derived.Test.YtocgnkenlfdffaaDoorNest2
import Derived.RangeFuncCalls
import Derived.Shelf.Abstract
import Derived.Shelf.RegionOpen
import Derived.OwnWalkIn
import Derived.TacticsInMore
import Derived.LoopNIn
import Derived.LoopIn
namespace Go.Wap
/-- the texts of a list's text, each with an error -/
def seqOf (s : Bytes) : List (Bytes × Int) :=
  if _h0 : s = [] then [] else
  match _h : take1 s with
  | none => [([], 4)]
  | some (t, r) => (t, 0) :: seqOf r
termination_by s.length
decreasing_by exact take1_len _h
theorem seqOf_nil : seqOf [] = [] := by rw [seqOf]; simp
theorem seqOf_step {s t r : Bytes} (h : take1 s = some (t, r)) (h0 : s ≠ []) : seqOf s = (t, 0) :: seqOf r := by
  rw [seqOf, dif_neg h0]; split
  · rename_i hh; rw [h] at hh; cases hh
  · rename_i hh; rw [h] at hh; cases hh; rfl
theorem seqOf_bad {s : Bytes} (h : take1 s = none) (h0 : s ≠ []) : seqOf s = [([], 4)] := by
  rw [seqOf, dif_neg h0]; split
  · rfl
  · rename_i hh; rw [h] at hh; cases hh
end Go.Wap
namespace Go.Proofs.YtocgnkenlfdffaaDoor
open Go Go.RowKit Go.Wap
attribute [local go_sem] Oper.semAt_some
/-- between two rounds the iterator makes memory, and stores into its own cell -/
def StepB (B : Nat) (A C : World) : Prop := Below A.heap.size A C ∨ ∃ v, C = A.setCell ⟨B, 0, none⟩ v
def enc2 (p : Bytes × Int) : Array Value := #[S p.1, .int .i64 p.2]
set_option maxRecDepth 100000 in
set_option maxHeartbeats 4000000 in
theorem texts1_by (n B lo : Nat) (s : Bytes) (w : World) (hg : Glob w) (hn : 1 ≤ n) (h8 : 8 ≤ lo) (hlo : lo ≤ B) (hs : s.length < 4294967281) (hB : B < w.heap.size) (hc : w.cell? ⟨B, 0, none⟩ = some (S s)) (hf : w.frozen? ⟨B, 0, none⟩ = false) :
    SeqBy n Tryd.prog 85 #[.pointer (some ⟨B, 0, none⟩)] enc2 (StepB B) (Only fun b => lo ≤ b ∧ b ≠ B) (fun xs => xs = seqOf s) (fun pre => pre <+: seqOf s) (seqOf s).length w := by
  intro l J Jx W hW hJ hJx hY h0
  refine callsIn_of_wp Tryd.func85 rfl trivial ?_ rfl
  simp only [Tryd.ntmps85, List.size_toArray, List.length_cons, List.length_nil, Nat.reduceAdd, Nat.reduceSub, Array.replicate_succ, Array.replicate_zero, List.push_toArray, List.append_toArray, List.nil_append, List.cons_append]
  gi_wp2
  gi_loopw [6] (fun v wr => ∃ (pre : List (Bytes × Int)) (r : Bytes), seqOf s = pre ++ seqOf r ∧ r.length ≤ s.length ∧ wr.cell? ⟨B, 0, none⟩ = some (S r) ∧ wr.frozen? ⟨B, 0, none⟩ = false ∧ B < wr.heap.size ∧ Glob wr ∧ J pre wr)
    (fun v wr => match wr.cell? ⟨B, 0, none⟩ with | some (.string x) => x.size | _ => 0)
  case atStart => exact ⟨[], s, rfl, Nat.le_refl _, (hW.cell (p := ⟨B, 0, none⟩) hB).trans hc, (hW.frozen (p := ⟨B, 0, none⟩) hB).trans hf, Nat.lt_of_lt_of_le hB hW.size, hg.next hW, h0⟩
  case round =>
    obtain ⟨pre, r, hx, hlen, hcr, hfr, hBr, hgr, hj⟩ := hrel
    have hlt : pre.length < (seqOf s).length ∨ r = [] := by
      by_cases hr : r = []
      · exact .inr hr
      · left; rw [hx, List.length_append]
        have : 0 < (seqOf r).length := by
          cases h : take1 r with
          | none => rw [seqOf_bad h hr]; simp
          | some p => obtain ⟨t, r'⟩ := p; rw [seqOf_step h hr]; simp
        omega
    by_cases hr : r = []
    · subst hr
      have HX := Lib.hid hx
      clear hY hx
      gi_wp2
      go_end0
      have hx := HX.out
      exact ⟨⟨_, rfl⟩, .inl (by rw [hx, seqOf_nil, List.append_nil]; exact hj)⟩
    · have hlt := hlt.resolve_right hr
      have hne : r.isEmpty = false := by cases r with | nil => exact absurd rfl hr | cons a b => rfl
      have HX := Lib.hid hx
      cases ht : take1 r with
      | none =>
        have hj1 : ∀ w1, Below wr.heap.size wr w1 → J pre w1 := fun w1 hb => hJ _ _ _ hj (.inl hb)
        have HT := Lib.hid ht; have HJ := Lib.hid hj1; have HY := Lib.hid hY; have HG := Lib.hid hgr
        clear ht hj1 hY hJ hJx hgr hx
        gi_wp2_with (refine ⟨trivial, ?_⟩; refine (callsIn_wide.2 (take_no r wr HT.out (by omega) HG.out)).mono ?_; rintro e w1 ⟨rfl, hb1⟩; obtain ⟨fn, tmps, assign, body, hy, hR⟩ := HY.out pre ([], 4) w1 (HJ.out w1 hb1) hlt; simp only [enc2] at hy)
        refine hR.mono ?_
        have he : seqOf s = pre ++ [([], 4)] := by rw [HX.out, seqOf_bad HT.out hr]
        rintro e W3 (⟨rfl, hJ3, hk3⟩ | ⟨rfl, hJx3⟩)
        · clear he
          gi_wp2
          refine bodyPost_ret (results_none rfl _ _ _) rfl ⟨⟨_, rfl⟩, .inl ⟨_, ?_, hJ3⟩⟩
          rw [HX.out, seqOf_bad HT.out hr]
        · clear he
          gi_wp2
          refine bodyPost_ret (results_none rfl _ _ _) rfl ⟨⟨_, rfl⟩, .inr ⟨_, ?_, hJx3⟩⟩
          rw [HX.out, seqOf_bad HT.out hr]; exact List.prefix_refl _
      | some p =>
        obtain ⟨t, r'⟩ := p
        have hj1 : ∀ w1, Below wr.heap.size wr w1 → J pre w1 := fun w1 hb => hJ _ _ _ hj (.inl hb)
        have hlr := take1_len ht
        have HT := Lib.hid ht; have HJ := Lib.hid hj1; have HY := Lib.hid hY; have HG := Lib.hid hgr; have HS := Lib.hid hJ
        have hend : seqOf s = (pre ++ [(t, 0)]) ++ seqOf r' := by rw [hx, seqOf_step ht hr]; simp
        have HE := Lib.hid hend
        clear ht hj1 hY hJ hJx hgr hx hend
        gi_wp2_with (refine ⟨trivial, ?_⟩; refine (callsIn_wide.2 (take_ok r t r' wr HT.out (by omega) HG.out)).mono ?_; rintro e w1 ⟨rfl, hb1⟩; obtain ⟨fn, tmps, assign, body, hy, hR⟩ := HY.out pre (t, 0) w1 (HJ.out w1 hb1) hlt; simp only [enc2] at hy)
        refine hR.mono ?_
        rintro e W3 (⟨rfl, hJ3, hk3⟩ | ⟨rfl, hJx3⟩)
        · have hc1 : w1.cell? ⟨B, 0, none⟩ = some (S r) := (hb1.cell (p := ⟨B, 0, none⟩) hBr).trans hcr
          have hB1 : B < w1.heap.size := Nat.lt_of_lt_of_le hBr hb1.size
          have hc3 : W3.cell? ⟨B, 0, none⟩ = some (S r) := (hk3.cell (p := ⟨B, 0, none⟩) hB1 (by simp)).trans hc1
          have hf3 : W3.frozen? ⟨B, 0, none⟩ = false := (hk3.frozen (p := ⟨B, 0, none⟩) hB1 (by simp)).trans ((hb1.frozen (p := ⟨B, 0, none⟩) hBr).trans hfr)
          have hB3 : B < W3.heap.size := Nat.lt_of_lt_of_le hB1 hk3.size
          have hg3 : Glob W3 := (HG.out.next hb1).only hk3 (fun k hk => by omega)
          have HG3 := Lib.hid hg3; clear hg3
          gi_wp2
          go_roundw
          case rel =>
            refine ⟨pre ++ [(t, 0)], r', HE.out, by omega, set_same hc3, ?_, ?_, ?_, HS.out _ _ _ hJ3 (.inr ⟨_, rfl⟩)⟩
            · rw [World.frozen?_setCell]; exact hf3
            · simpa [World.setCell] using hB3
            · exact HG3.out.only ((Only.refl (fun b => b = B) W3).setCell (.inl rfl) _) (fun k hk => by omega)
          case measure =>
            have e := set_same (v := S r') hc3
            simp only [hcr, e]
            show r'.toArray.size < r.toArray.size
            simpa using hlr
        · gi_wp2
          refine bodyPost_ret (results_none rfl _ _ _) rfl ⟨⟨_, rfl⟩, .inr ⟨_, ?_, hJx3⟩⟩
          rw [HE.out]; exact List.prefix_append _ _
theorem texts_any (s : Bytes) (w : World) :
    Calls Tryd.prog 67 #[S s] w fun e w' => e = .returned (.func (.func 85) #[] #[.pointer (some ⟨w.heap.size, 0, none⟩)]) ∧ w' = w.alloc (.cells #[S s] 9) := by
  go_enter Tryd.func67, Tryd.ntmps67
  go_wp2_with fail
  go_ret
  exact ⟨rfl, rfl⟩
end Go.Proofs.YtocgnkenlfdffaaDoor
