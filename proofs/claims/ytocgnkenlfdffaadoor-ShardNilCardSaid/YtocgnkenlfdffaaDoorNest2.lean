/- nest.Pack: a list's text. -/
import Derived.Test.YtocgnkenlfdffaaDoorNest1
namespace Go.Proofs.YtocgnkenlfdffaaDoor
open Go Go.RowKit Go.Wap
/-- a slice that reads as a list of texts -/
def Strs (w : World) (v : Value) (l : List Bytes) : Prop :=
  ∃ A c, v = .slice A l.length c ∧ (l ≠ [] → ∃ g o, A = some ⟨g, o, none⟩ ∧ ∀ j (h : j < l.length), w.cell? ⟨g, o + j, none⟩ = some (S l[j]))
theorem Strs.below {w w' : World} {v : Value} {l : List Bytes} (h : Strs w v l) (hb : Below w.heap.size w w') : Strs w' v l := by
  obtain ⟨A, c, rfl, h⟩ := h
  refine ⟨A, c, rfl, fun hl => ?_⟩
  obtain ⟨g, o, rfl, hc⟩ := h hl
  exact ⟨g, o, rfl, fun j hj => (hb.cell (p := ⟨g, o + j, none⟩) (World.block_lt_of_cell? w ⟨g, o + j, none⟩ (hc j hj))).trans (hc j hj)⟩
theorem pack_length_ge (l : List Bytes) : l.length ≤ (pack l).length := by
  induction l with
  | nil => simp
  | cons s l ih => rw [pack_cons]; simp [pack1]; omega
theorem isBuilder_below {T e : TypeId} {B b : Nat} {bs : List Value} {w w' : World} (h : Lib.IsBuilder T e B b bs w) (hb : Below w.heap.size w w') : Lib.IsBuilder T e B b bs w' := by
  have go : ∀ p, Lib.BuilderAt T e B b p bs w → Lib.BuilderAt T e B b p bs w' := by
    rintro p ⟨hB, v, hv, hown, hne⟩
    refine ⟨hB, v, (hb.block b (Array.getElem?_eq_some_iff.1 hv).1).trans hv, hown.kept (row := none) ⟨hb.os, hb.tape, hb.output, hb.size, fun k hk _ => hb.block k hk⟩ ?_, hne⟩
    cases v.ownBlock <;> simp
  rcases h with h | h
  · exact .inl (go _ h)
  · exact .inr (go _ h)
theorem Strs.nil (w : World) : Strs w (.slice none 0 0) [] := ⟨none, 0, rfl, fun h => absurd rfl h⟩
set_option maxHeartbeats 1000000 in
theorem pack_any (v : Value) (l : List Bytes) (w : World) (hv : Strs w v l) (hl : (pack l).length ≤ 140737488355328) (hn : ∀ s ∈ l, s.length ≤ 140737488355328) (hg : Glob w) :
    Calls Tryd.prog 41 #[v] w fun e w' => e = .returned (S (pack l)) ∧ Below w.heap.size w w' := by
  obtain ⟨A, c, rfl, hA⟩ := hv
  have hcn := pack_length_ge l
  have hfr := Lib.fresh_isBuilder 135 5 w
  have hb0 := (Below.refl w.heap.size w).alloc (Nat.le_refl _) (.cells #[.pointer none, .slice none 0 0] 135)
  go_enter Tryd.func41, Tryd.ntmps41
  go_wp2_with fail
  go_loopw [8] (fun i wr => ∃ k : Nat, k ≤ l.length ∧ i = .int .i64 k ∧ Lib.IsBuilder 135 5 w.heap.size w.heap.size (Lib.byteCells (pack (l.take k))) wr ∧ Below w.heap.size w wr) (fun i _ => l.length - (intOf i).toNat)
  case atStart => exact ⟨0, by omega, rfl, hfr, hb0⟩
  case round =>
    obtain ⟨k, hk, rfl, hbk, hbw⟩ := hrel
    by_cases hlt : k < l.length
    · obtain ⟨g, o, rfl, hc⟩ := hA (by intro h; subst h; simp at hlt)
      have hck := hc k hlt
      have hgl : g < w.heap.size := World.block_lt_of_cell? w ⟨g, o + k, none⟩ hck
      have hcr := (hbw.cell (p := ⟨g, o + k, none⟩) hgl).trans hck
      have hnk := hn l[k] (List.getElem_mem hlt)
      have hgr := hg.below hbw hg.big
      have hnl := num_len (l[k].length : Int) ⟨by omega, by omega⟩
      have hsum : (pack (l.take k)).length + (pack1 l[k]).length ≤ (pack l).length := by
        have e : pack l = pack (l.take k) ++ (pack1 l[k] ++ pack (l.drop (k + 1))) := by
          conv => lhs; rw [← List.take_append_drop k l, pack_append, List.drop_eq_getElem_cons hlt, pack_cons]
        rw [e]; simp
      have hwr : ∀ (X : ByteArray) (w1 : World), X.data.toList = pack1 l[k] → Below w.heap.size w w1 → Lib.IsBuilder 135 5 w.heap.size w.heap.size (Lib.byteCells (pack (l.take k))) w1 →
          Calls Tryd.prog 65 #[.pointer (some ⟨w.heap.size, 0, none⟩), .string X] w1 fun e w' => e = .returned (.tuple #[.int .i64 X.size, .nilIface]) ∧ Lib.IsBuilder 135 5 w.heap.size w.heap.size (Lib.byteCells (pack (l.take (k + 1)))) w' ∧ Below w.heap.size w w' := by
        intro X w1 hX hb1 hbu
        have hXs : X.size = (pack1 l[k]).length := by rw [← hX]; simp
        refine (writeString_any w.heap.size w.heap.size _ X w1 hbu (by rw [Lib.byteCells_length, hXs]; omega) hb1.size).mono ?_
        rintro e w' ⟨rfl, hbu', hb'⟩
        refine ⟨rfl, .inr ?_, hb1.trans hb'⟩
        have e : Lib.byteCells (pack (l.take (k + 1))) = Lib.byteCells (pack (l.take k)) ++ Lib.strCells X := by
          rw [List.take_succ_eq_append_getElem hlt, pack_snoc, Lib.byteCells_append]
          unfold Lib.strCells; rw [hX]; rfl
        rw [e]; exact hbu'
      have hbk2 : ∀ w1, Below wr.heap.size wr w1 → Lib.IsBuilder 135 5 w.heap.size w.heap.size (Lib.byteCells (pack (l.take k))) w1 := fun w1 hb => isBuilder_below hbk hb
      have HB := Lib.hid hbk2; have HW := Lib.hid hbw; have HG := Lib.hid hgr; have HWR := Lib.hid hwr; have HSUM := Lib.hid hsum
      clear hA hn hc hck hbk hbw hgr hfr hb0 hwr hbk2 hsum
      go_wp2_with (first | (go_at_call 46; refine (num_any _ wr ⟨by omega, by omega⟩ HG.out).mono ?_; rintro e w1 ⟨rfl, hb1⟩) | (go_at_call 65; refine (HWR.out _ w1 ?hx (HW.out.trans (hb1.mono HW.out.size)) (HB.out w1 hb1)).mono ?_; (case hx => simp [pack1]); rintro e w2 ⟨rfl, hbu, hb2⟩))
      exact ⟨⟨k + 1, by omega, by go_num, hbu, hb2⟩, by simp [intOf]; omega⟩
    · have hkl : k = l.length := by omega
      subst hkl
      rw [List.take_of_length_le (Nat.le_refl _)] at hbk
      have HB := Lib.hid hbk; have HW := Lib.hid hbw
      clear hA hn hbk hbw hfr hb0
      go_wp2_with (go_at_call 66; refine (Tryd.Builder_String_any w.heap.size w.heap.size (pack l) wr HB.out HW.out.size).mono ?_; rintro e w2 ⟨rfl, hb2⟩)
      go_ret
      exact ⟨rfl, HW.out.trans hb2⟩
end Go.Proofs.YtocgnkenlfdffaaDoor
