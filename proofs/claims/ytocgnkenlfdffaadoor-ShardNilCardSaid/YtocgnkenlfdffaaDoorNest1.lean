/- nest: numbers' texts, lists' texts, the first text of a list. -/
import Derived.Test.YtocgnkenlfdffaaDoorGlob
import Derived.Test.YtocgnkenlfdffaaDoorBuild
import Derived.Test.YtocgnkenlfdffaaDoorShelf
namespace Go.Proofs.YtocgnkenlfdffaaDoor
open Go Go.RowKit Go.Wap
theorem num_any (n : Int) (w : World) (hn : InI n) (hg : Glob w) : Calls Tryd.prog 46 #[.int .i64 n] w fun e w' => e = .returned (S (num n)) ∧ Below w.heap.size w w' := by
  obtain ⟨h0, h1⟩ := hn
  have htab := hg.tab
  have HT := Lib.hid htab; clear htab hg
  go_enter Tryd.func46, Tryd.ntmps46
  go_wp2_with (go_at_call 69; refine (Tryd.strconv_Itoa n h0 h1 _ HT.out).mono ?_; rintro e w' ⟨rfl, hk⟩)
  go_ret
  exact ⟨rfl, below_grown hk⟩
/-- ToNum of a number's text -/
theorem tonum_ok (s : Bytes) (v : Int) (w : World) (h : toNum s = some v) (hs : s.length ≤ 281474976710656) (hg : Glob w) :
    Calls Tryd.prog 50 #[S s] w fun e w' => e = .returned (.tuple #[.int .i64 v, .int .i64 0]) ∧ Below w.heap.size w w' := by
  obtain ⟨hv, he⟩ := toNum_some.1 h
  have hat : Lib.atoiAll s = .ok v := by rw [← he]; exact atoi_itoa v hv
  have hca : Calls Tryd.prog 70 #[S s] w fun e w' => e = .returned (.tuple #[.int .i64 v, .nilIface]) ∧ Below w.heap.size w w' := by
    refine (Tryd.strconv_Atoi_ok ⟨s.toArray⟩ (by show s.toArray.size ≤ _; simp; omega) v (by simpa using hat) w).mono ?_
    rintro e w' ⟨rfl, h⟩
    refine ⟨rfl, ?_⟩
    rcases h with rfl | ⟨t, rfl⟩
    · exact Below.refl _ _
    · exact Lib.bytesWorld_below _ _ _
  have hq : (num v == s) = true := by simp [he]
  have HA := Lib.hid hca; have HG := Lib.hid hg
  clear h he hat hca hg
  go_enter Tryd.func50, Tryd.ntmps50
  go_wp2_with (first | (go_at_call 70; refine (HA.out).mono ?_; rintro e w1 ⟨rfl, hb1⟩) | (go_at_call 46; refine (num_any v w1 hv (HG.out.next hb1)).mono ?_; rintro e w2 ⟨rfl, hb2⟩))
  go_ret2
  exact ⟨rfl, hb1.trans (hb2.mono hb1.size)⟩
/-- ToNum of what is no number's text -/
theorem tonum_no (s : Bytes) (w : World) (h : toNum s = none) (hs : s.length ≤ 281474976710656) (hg : Glob w) :
    Calls Tryd.prog 50 #[S s] w fun e w' => e = .returned (.tuple #[.int .i64 0, .int .i64 4]) ∧ Below w.heap.size w w' := by
  have hsz : (⟨s.toArray⟩ : ByteArray).size = s.length := by show s.toArray.size = _; simp
  rcases hat : Lib.atoiAll s with v | _ | _
  · skip
    have hv := atoi_range hat
    have hq : (num v == s) = false := by
      unfold toNum at h; rw [hat] at h; simp only [] at h
      split at h
      · cases h
      · rename_i hne; simpa using hne
    have hca : Calls Tryd.prog 70 #[S s] w fun e w' => e = .returned (.tuple #[.int .i64 v, .nilIface]) ∧ Below w.heap.size w w' := by
      refine (Tryd.strconv_Atoi_ok ⟨s.toArray⟩ (by rw [hsz]; omega) v (by simpa using hat) w).mono ?_
      rintro e w' ⟨rfl, h⟩
      refine ⟨rfl, ?_⟩
      rcases h with rfl | ⟨t, rfl⟩
      · exact Below.refl _ _
      · exact Lib.bytesWorld_below _ _ _
    have HA := Lib.hid hca; have HG := Lib.hid hg
    clear h hat hca hg hsz
    go_enter Tryd.func50, Tryd.ntmps50
    go_wp2_with (first | (go_at_call 70; refine (HA.out).mono ?_; rintro e w1 ⟨rfl, hb1⟩) | (go_at_call 46; refine (num_any v w1 hv (HG.out.next hb1)).mono ?_; rintro e w2 ⟨rfl, hb2⟩))
    go_ret2
    exact ⟨rfl, hb1.trans (hb2.mono hb1.size)⟩
  · skip
    obtain ⟨tp, p, hv⟩ := hg.esyn
    have hca : Calls Tryd.prog 70 #[S s] w fun e w' => ∃ (x : Int) (t : TypeId) (a : Value), e = .returned (.tuple #[.int .i64 x, .iface t a]) ∧ Below w.heap.size w w' :=
      (Tryd.strconv_Atoi_syntax_var ⟨s.toArray⟩ (by rw [hsz]; omega) (by show Lib.atoiAll s.toArray.toList = Lib.atoiAll []; rw [List.toList_toArray]; exact hat) tp p w (hv.var (by kernel_rfl))).mono fun e w' h => by
        obtain ⟨N, rfl, _, _, hb⟩ := h
        exact ⟨_, _, _, rfl, hb⟩
    have HA := Lib.hid hca
    clear h hat hca hg hsz
    go_enter Tryd.func50, Tryd.ntmps50
    go_wp2_with (go_at_call 70; refine (HA.out).mono ?_; rintro e w1 ⟨x, t, a, rfl, hb1⟩)
    go_ret2
    exact ⟨rfl, hb1⟩
  · skip
    obtain ⟨tp, p, hv⟩ := hg.eran
    have hca : Calls Tryd.prog 70 #[S s] w fun e w' => ∃ (x : Int) (t : TypeId) (a : Value), e = .returned (.tuple #[.int .i64 x, .iface t a]) ∧ Below w.heap.size w w' :=
      (Tryd.strconv_Atoi_range_var ⟨s.toArray⟩ (by rw [hsz]; omega) (by simpa using hat) tp p w (hv.var (by kernel_rfl))).mono fun e w' h => by
        obtain ⟨N, rfl, _, _, hb⟩ := h
        exact ⟨_, _, _, rfl, hb⟩
    have HA := Lib.hid hca
    clear h hat hca hg hsz
    go_enter Tryd.func50, Tryd.ntmps50
    go_wp2_with (go_at_call 70; refine (HA.out).mono ?_; rintro e w1 ⟨x, t, a, rfl, hb1⟩)
    go_ret2
    exact ⟨rfl, hb1⟩
/-- Take of a list's text that begins well -/
theorem take_ok (s t r : Bytes) (w : World) (h : take1 s = some (t, r)) (hs : s.length < 4294967281) (hg : Glob w) :
    Calls Tryd.prog 86 #[S s] w fun e w' => e = .returned (.tuple #[S t, S r, .int .i64 0]) ∧ Below w.heap.size w w' := by
  unfold take1 at h
  cases hc : cut s with
  | none => rw [hc] at h; cases h
  | some p =>
    obtain ⟨hd, rr⟩ := p
    rw [hc] at h; simp only [] at h
    cases hn : toNum hd with
    | none => rw [hn] at h; cases h
    | some n =>
      rw [hn] at h; simp only [] at h
      split at h
      · rename_i hcond
        cases h
        obtain ⟨h9, h0, hlt, h44⟩ := hcond
        have hsp := (cut_spec.1 hc).1
        have hlen : s.length = hd.length + rr.length + 1 := by rw [hsp]; simp; omega
        obtain ⟨m, hm⟩ := hg.maxlen
        have hcut : Calls Tryd.prog 98 #[S s, S [58]] w fun e w' => e = .returned (.tuple #[S hd, S rr, .bool true]) ∧ Below w.heap.size w w' := by
          refine (Tryd.strings_Cut ⟨s.toArray⟩ ⟨#[58]⟩ m w (by show s.toArray.size < _; simpa using hs) hm).mono ?_
          rintro e w' ⟨rfl, k, rfl⟩
          have e1 : Lib.cut s [58] = (hd, rr, true) := by rw [cut_lib, hc]
          refine ⟨by simp [e1], below_drewN (Below.refl _ _) k⟩
        obtain ⟨j, rfl⟩ := Int.eq_ofNat_of_zero_le h0
        simp only [Int.toNat_natCast] at h44
        obtain ⟨hj, hv⟩ := List.getElem?_eq_some_iff.1 h44
        have HN := Lib.hid hn; have HC := Lib.hid hcut; have HG := Lib.hid hg
        have hz : ((({ data := rr.toArray } : ByteArray)[j]'(show j < rr.toArray.size by simpa using hj)).toNat : Int) = 44 := by
          have e : ({ data := rr.toArray } : ByteArray)[j]'(show j < rr.toArray.size by simpa using hj) = rr[j] := rfl
          rw [e, hv]; rfl
        have hw : IntKind.i64.wrap ((j : Int) + 1) = (j : Int) + 1 := IntWalk.i64_in _ (by omega)
        have hj1 : (j : Int) + 1 ≤ (rr.length : Int) := by omega
        have hj0 : (0 : Int) ≤ (j : Int) + 1 := by omega
        have hjn : ((j : Int) + 1).toNat = j + 1 := by omega
        have HW := Lib.hid hw; have HJN := Lib.hid hjn
        clear hn hcut hg hsp hlen hm hc hv h44 hw hjn
        go_enter Tryd.func86, Tryd.ntmps86
        go_wp2_with (first | (go_at_call 98; refine (HC.out).mono ?_; rintro e w1 ⟨rfl, hb1⟩) | (go_at_call 50; refine (tonum_ok hd _ w1 HN.out (by omega) (HG.out.next hb1)).mono ?_; rintro e w2 ⟨rfl, hb2⟩))
        have hw := HW.out; have hjn := HJN.out
        go_region
        go_wp2_with fail
        go_ret3
        exact ⟨by rw [ba_extract, ba_extract]; simp, (hb1.trans (hb2.mono hb1.size)).drew⟩
      · cases h
theorem tonum_any (s : Bytes) (w : World) (hs : s.length ≤ 281474976710656) (hg : Glob w) :
    Calls Tryd.prog 50 #[S s] w fun e w' => ∃ v x : Int, e = .returned (.tuple #[.int .i64 v, .int .i64 x]) ∧ Below w.heap.size w w' := by
  cases h : toNum s with
  | none => exact (tonum_no s w h hs hg).mono fun e w' ⟨he, hb⟩ => ⟨_, _, he, hb⟩
  | some v => exact (tonum_ok s v w h hs hg).mono fun e w' ⟨he, hb⟩ => ⟨_, _, he, hb⟩
/-- Take of what begins as no list's text -/
theorem take_no (s : Bytes) (w : World) (h : take1 s = none) (hs : s.length < 4294967281) (hg : Glob w) :
    Calls Tryd.prog 86 #[S s] w fun e w' => e = .returned (.tuple #[S [], S [], .int .i64 4]) ∧ Below w.heap.size w w' := by
  unfold take1 at h
  obtain ⟨m, hm⟩ := hg.maxlen
  cases hc : cut s with
  | none =>
    have hcut : Calls Tryd.prog 98 #[S s, S [58]] w fun e w' => e = .returned (.tuple #[S s, S [], .bool false]) ∧ Below w.heap.size w w' := by
      refine (Tryd.strings_Cut ⟨s.toArray⟩ ⟨#[58]⟩ m w (by show s.toArray.size < _; simpa using hs) hm).mono ?_
      rintro e w' ⟨rfl, k, rfl⟩
      have e1 : Lib.cut s [58] = (s, [], false) := by rw [cut_lib, hc]
      refine ⟨by simp [e1], below_drewN (Below.refl _ _) k⟩
    have HC := Lib.hid hcut; have HG := Lib.hid hg
    clear hcut hg hm hc h
    go_enter Tryd.func86, Tryd.ntmps86
    go_wp2_with (first | (go_at_call 98; refine (HC.out).mono ?_; rintro e w1 ⟨rfl, hb1⟩) | (go_at_call 50; refine (tonum_any s w1 (by omega) (HG.out.next hb1)).mono ?_; rintro e w2 ⟨v, x, rfl, hb2⟩))
    go_ret3
    exact ⟨rfl, hb1.trans (hb2.mono hb1.size)⟩
  | some p =>
    obtain ⟨hd, rr⟩ := p
    have hsp := (cut_spec.1 hc).1
    have hlen : s.length = hd.length + rr.length + 1 := by rw [hsp]; simp; omega
    have hcut : Calls Tryd.prog 98 #[S s, S [58]] w fun e w' => e = .returned (.tuple #[S hd, S rr, .bool true]) ∧ Below w.heap.size w w' := by
      refine (Tryd.strings_Cut ⟨s.toArray⟩ ⟨#[58]⟩ m w (by show s.toArray.size < _; simpa using hs) hm).mono ?_
      rintro e w' ⟨rfl, k, rfl⟩
      have e1 : Lib.cut s [58] = (hd, rr, true) := by rw [cut_lib, hc]
      refine ⟨by simp [e1], below_drewN (Below.refl _ _) k⟩
    have hdl : hd.length ≤ 4294967281 := by omega
    rw [hc] at h; simp only [] at h
    have HC := Lib.hid hcut; have HG := Lib.hid hg
    clear hcut hg hm hc hsp hlen
    cases hn : toNum hd with
    | none =>
      have HN := Lib.hid hn; clear hn h
      go_enter Tryd.func86, Tryd.ntmps86
      go_wp2_with (first | (go_at_call 98; refine (HC.out).mono ?_; rintro e w1 ⟨rfl, hb1⟩) | (go_at_call 50; refine (tonum_no hd w1 HN.out (by omega) (HG.out.next hb1)).mono ?_; rintro e w2 ⟨rfl, hb2⟩))
      go_ret3
      exact ⟨rfl, hb1.trans (hb2.mono hb1.size)⟩
    | some n =>
      rw [hn] at h; simp only [] at h
      have hcond : ¬(hd.length ≤ 9 ∧ 0 ≤ n ∧ n < rr.length ∧ rr[n.toNat]? = some 44) := by
        intro hh; rw [if_pos hh] at h; cases h
      clear h
      have HN := Lib.hid hn; clear hn
      by_cases h9 : hd.length ≤ 9
      · by_cases h0 : 0 ≤ n
        · by_cases hlt : n < rr.length
          · obtain ⟨j, rfl⟩ := Int.eq_ofNat_of_zero_le h0
            have hj : j < rr.length := by omega
            have hz : (((({ data := rr.toArray } : ByteArray)[j]'(show j < rr.toArray.size by simpa using hj)).toNat : Int) == 44) = false := by
              have e : ({ data := rr.toArray } : ByteArray)[j]'(show j < rr.toArray.size by simpa using hj) = rr[j] := rfl
              rw [e]
              simp only [beq_eq_false_iff_ne]
              intro h44
              apply hcond
              refine ⟨h9, h0, hlt, ?_⟩
              simp only [Int.toNat_natCast]
              rw [List.getElem?_eq_getElem hj]
              congr 1
              apply UInt8.toNat_inj.1
              have : rr[j].toNat = 44 := by omega
              rw [this]; rfl
            have hz2 : (((({ data := rr.toArray } : ByteArray)[j]'(show j < rr.toArray.size by simpa using hj)).toNat : Int) != 44) = true := by
              rw [bne, hz]; rfl
            clear hcond hz
            go_enter Tryd.func86, Tryd.ntmps86
            go_wp2_with (first | (go_at_call 98; refine (HC.out).mono ?_; rintro e w1 ⟨rfl, hb1⟩) | (go_at_call 50; refine (tonum_ok hd _ w1 HN.out (by omega) (HG.out.next hb1)).mono ?_; rintro e w2 ⟨rfl, hb2⟩))
            go_ret3
            exact ⟨rfl, hb1.trans (hb2.mono hb1.size)⟩
          · have hge : (rr.length : Int) ≤ n := by omega
            have hn1 : InI n := toNum_range HN.out
            obtain ⟨hn2, hn3⟩ := hn1
            clear hcond
            go_enter Tryd.func86, Tryd.ntmps86
            go_wp2_with (first | (go_at_call 98; refine (HC.out).mono ?_; rintro e w1 ⟨rfl, hb1⟩) | (go_at_call 50; refine (tonum_ok hd _ w1 HN.out (by omega) (HG.out.next hb1)).mono ?_; rintro e w2 ⟨rfl, hb2⟩))
            go_ret3
            exact ⟨rfl, hb1.trans (hb2.mono hb1.size)⟩
        · have hneg : n < 0 := by omega
          clear hcond
          go_enter Tryd.func86, Tryd.ntmps86
          go_wp2_with (first | (go_at_call 98; refine (HC.out).mono ?_; rintro e w1 ⟨rfl, hb1⟩) | (go_at_call 50; refine (tonum_ok hd _ w1 HN.out (by omega) (HG.out.next hb1)).mono ?_; rintro e w2 ⟨rfl, hb2⟩))
          go_ret3
          exact ⟨rfl, hb1.trans (hb2.mono hb1.size)⟩
      · have hgt : 9 < hd.length := by omega
        clear hcond
        go_enter Tryd.func86, Tryd.ntmps86
        go_wp2_with (first | (go_at_call 98; refine (HC.out).mono ?_; rintro e w1 ⟨rfl, hb1⟩) | (go_at_call 50; refine (tonum_ok hd _ w1 HN.out (by omega) (HG.out.next hb1)).mono ?_; rintro e w2 ⟨rfl, hb2⟩))
        go_ret3
        exact ⟨rfl, hb1.trans (hb2.mono hb1.size)⟩
end Go.Proofs.YtocgnkenlfdffaaDoor
