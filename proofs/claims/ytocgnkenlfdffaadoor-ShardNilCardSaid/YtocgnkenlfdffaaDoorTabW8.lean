/- package table: Text. -/
import Derived.Test.YtocgnkenlfdffaaDoorTabW7
import Derived.Test.YtocgnkenlfdffaaDoorSh
namespace Go.Proofs.YtocgnkenlfdffaaDoor
open Go Go.RowKit Go.Wap
theorem cells_new_at (w : World) (news : List Value) (t : TypeId) : ∀ j u, news[j]? = some u → (w.alloc (.cells news.toArray t)).cell? ((⟨w.heap.size, 0, none⟩ : Addr).add j) = some u := by
  intro j u hj
  have : (⟨w.heap.size, 0, none⟩ : Addr).add j = ⟨w.heap.size, j, none⟩ := by unfold Addr.add; split <;> simp_all
  rw [this, cell_new]; simpa using hj
theorem size_alloc' (w : World) (o : Obj) : (w.alloc o).heap.size = w.heap.size + 1 := World.size_alloc _ _
theorem textT_parts {t : Tab} (h : TabOk t) : (pack (flatT t)).length ≤ 140737488355328 ∧ ∀ s ∈ flatT t, s.length ≤ 140737488355328 := by
  have := textT_len h
  unfold textT at this
  refine ⟨by omega, fun s hs => ?_⟩
  unfold flatT at hs
  rw [List.mem_flatMap] at hs
  obtain ⟨r, hr, hs⟩ := hs
  have := h.rows r hr
  simp at hs
  rcases hs with rfl | rfl <;> omega
theorem cellsT_take_succ (t : Tab) (k : Nat) (h : k < t.length) : cellsT (t.take (k + 1)) = cellsT (t.take k) ++ [S t[k].1, S t[k].2] := by
  rw [List.take_succ_eq_append_getElem h, cellsT_append]; simp [cellsT, flatT]
set_option maxRecDepth 100000 in
set_option maxHeartbeats 400000 in
theorem ttext_any (t : Tab) (p : Nat) (v : Value) (w : World) (h : TableAt w p v t) (ht : TabOk t) (hg : Glob w) :
    Calls Tryd.prog 61 #[.pointer (some ⟨p, 0, none⟩)] w fun e w' => e = .returned (S (textT t)) ∧ Below w.heap.size w w' := by
  obtain ⟨i0, hi, hz0, hz1, hz2⟩ := info_parts strInfo
  obtain ⟨A, c, g, rfl, hc1, hc2, hnil, hsome, hr, hA⟩ := h.slice
  have hp : w.cell? ⟨p, 0, none⟩ = some (.slice A t.length c) := h.row.cell 0
  have hfew := ht.few
  obtain ⟨hpl, hps⟩ := textT_parts ht
  have HR := Lib.hid hr; have HS := Lib.hid hsome; have HG := Lib.hid hg; have HPL := Lib.hid hpl; have HPS := Lib.hid hps
  clear h ht hr hsome hnil hA hg hpl hps
  go_enter Tryd.func61, Tryd.ntmps61
  go_wp2_with fail
  go_loopw [3, 13] (fun v i wr => ∃ k : Nat, k ≤ t.length ∧ i = .int .i64 k ∧ wr.ownsRow w.heap.size 9 1 v (2 * k) (cellsT (t.take k)) ∧ Below w.heap.size w wr) (fun _ i _ => t.length - (intOf i).toNat)
  case atStart => exact ⟨0, by omega, rfl, World.ownsRow_nil _ _ _ _, Below.refl _ _⟩
  case round =>
    obtain ⟨k, hk, rfl, hrow, hbw⟩ := hrel
    by_cases hlt : k < t.length
    · obtain rfl := HS.out (by intro h; subst h; simp at hlt)
      obtain ⟨ha, hb⟩ := (HR.out.below hbw) k hlt
      have HROW := Lib.hid hrow; have HBW := Lib.hid hbw
      have hsz := hbw.size
      clear hrow hbw
      have hnew := cells_new_at (wr.alloc (.cells #[S t[k].1, S t[k].2] 163)) [S t[k].1, S t[k].2] 9
      rw [size_alloc'] at hnew
      have HNEW := Lib.hid hnew
      clear hnew
      go_wp2_with (at_builtin; refine wpList_append_own _ rfl _ _ 89 rfl w.heap.size 9 i0 (.string ⟨#[]⟩) 1 16 strsUnder hi hz0 hz1 hz2 rfl (by decide) _ _ _ rfl ((HROW.out.alloc _).alloc _) ⟨wr.heap.size + 1, 0, none⟩ 2 2 [S t[k].1, S t[k].2] rfl rfl HNEW.out (by simp [Value.oneCell']) (by unfold maxLen; omega) (by omega) (by simp only [World.size_alloc]; omega) ?_; intro v' w1 hown' hgrow _; have HO := Lib.hid hown'; have HGR := Lib.hid hgrow; clear hown' hgrow)
      go_roundw
      case rel =>
        refine ⟨k + 1, by omega, by go_num, ?_, ?_⟩
        · rw [cellsT_take_succ t k hlt]
          have := HO.out
          rw [show 2 * (k + 1) = 2 * k + 2 by omega]; exact this
        · exact ((HBW.out.alloc hsz _).alloc (by simp only [World.size_alloc]; omega) _).grown HGR.out (by simp only [World.size_alloc]; omega) (fun j hj => by
            rcases HROW.out.2 with ⟨rfl, _⟩ | ⟨g', cap, cur, rfl, hb', _⟩
            · cases hj
            · cases hj; exact hb')
      case measure => simp [intOf]; omega
    · obtain rfl : k = t.length := by omega
      rw [List.take_of_length_le (Nat.le_refl _)] at hrow
      have hst : Strs wr _ (flatT t) := strs_of_row hrow
      have HST := Lib.hid hst; have HBW := Lib.hid hbw
      clear hrow hbw hst
      go_wp2_with (go_at_call 41; refine (pack_any _ (flatT t) _ HST.out HPL.out HPS.out (HG.out.next HBW.out)).mono ?_; rintro e w2 ⟨rfl, hb2⟩)
      go_ret
      exact ⟨rfl, HBW.out.trans (hb2.mono HBW.out.size)⟩
end Go.Proofs.YtocgnkenlfdffaaDoor
