/- package shard: Text, Install of what is not Pulling; the law's small case. -/
import Derived.Test.YtocgnkenlfdffaaDoorShW4
namespace Go.Proofs.YtocgnkenlfdffaaDoor
open Go Go.RowKit Go.Wap
theorem text_off (rv : Value) (x : Int) (w : World) (hg : Glob w) (h1 : x ≠ 1) (h2 : x ≠ 2) (hx : 0 ≤ x ∧ x ≤ 3) (hst : ∀ W, Below w.heap.size w W → Calls Tryd.prog 31 #[rv] W fun e w' => e = .returned (.int .i64 x) ∧ W = w') :
    Calls Tryd.prog 35 #[rv] w fun e w' => e = .returned (S (pack [num x, []])) ∧ Below w.heap.size w w' := by
  have HS := Lib.hid hst; have HG := Lib.hid hg
  have hnl := num_len x ⟨by omega, by omega⟩
  have hp1 := pack1_len (num x) (by omega)
  have hpl : (pack [num x, []]).length ≤ 140737488355328 := by
    have := pack1_len [] (by simp)
    rw [pack_cons, pack_cons, pack_nil]; simp only [List.length_append, List.length_nil] at this ⊢; omega
  have HPL := Lib.hid hpl
  clear hst hg hpl hp1
  go_enter Tryd.func35, Tryd.ntmps35
  go_wp2_with (first | (go_at_call 31; refine (HS.out _ (Below.refl _ _)).mono ?_; rintro e w' ⟨rfl, rfl⟩) | (go_at_call 46; refine (num_any x _ ⟨by omega, by omega⟩ HG.out).mono ?_; rintro e w1 ⟨rfl, hb1⟩; have HB1 := Lib.hid hb1; clear hb1) | (go_at_call 33; refine (content_off rv x _ (fun W e => by subst e; exact HS.out _ HB1.out) h1 h2).mono ?_; rintro e w' ⟨rfl, rfl⟩) | (go_at_call 41; refine (pack_any _ [num x, []] _ (strs_new w1 [num x, []] _ 2) HPL.out (by simp; omega) ((HG.out.next HB1.out).next ((Below.refl _ w1).alloc (Nat.le_refl _) _))).mono ?_; rintro e w2 ⟨rfl, hb2⟩))
  go_ret
  exact ⟨rfl, HB1.out.trans ((((Below.refl _ w1).alloc (Nat.le_refl _) _).trans (hb2.mono (by simp))).mono HB1.out.size)⟩
set_option maxHeartbeats 400000 in
theorem stext_any (s p : Nat) (v : Value) (h : Sh) (w : World) (a : ShardAt w s p v h) (ho : ShOk h) (hg : Glob w) : Calls Tryd.prog 35 #[.pointer (some ⟨s, 0, none⟩)] w fun e w' => e = .returned (S (textS h)) ∧ Below w.heap.size w w' := by
  have HS := Lib.hid (status_any s p v h w a); have HG := Lib.hid hg; have HA := Lib.hid a; have HO := Lib.hid ho
  obtain ⟨hs0, hs3⟩ := ho.st
  have hnl := num_len h.st ⟨by omega, by omega⟩
  have hcl := contentS_len ho
  have hpl : (pack [num h.st, contentS h]).length ≤ 140737488355328 := by have := textS_len ho; unfold textS at this; omega
  have HPL := Lib.hid hpl
  obtain ⟨t, ht⟩ : ∃ t, t = textS h := ⟨_, rfl⟩
  obtain ⟨x, hx⟩ : ∃ x, x = h.st := ⟨_, rfl⟩
  obtain ⟨y, hy⟩ : ∃ y, y = contentS h := ⟨_, rfl⟩
  have HT : Hid (pack [num x, y] = t) := Lib.hid (by rw [ht, hx, hy]; rfl)
  have HC : Hid (∀ W, ShardAt W s p v h → Glob W → Calls Tryd.prog 33 #[.pointer (some ⟨s, 0, none⟩)] W fun e w' => e = .returned (S y) ∧ Below W.heap.size W w') := Lib.hid (fun W hW hgW => by rw [hy]; exact content_any s p v h W hW ho hgW)
  rw [← hx] at HS hs0 hs3 hnl HPL
  rw [← hy] at hcl HPL
  rw [← ht]
  clear a ho hg hpl hx hy ht
  go_enter Tryd.func35, Tryd.ntmps35
  go_wp2_with (first | (go_at_call 31; refine HS.out.mono ?_; rintro e w' ⟨rfl, rfl⟩) | (go_at_call 46; refine (num_any x _ ⟨by omega, by omega⟩ HG.out).mono ?_; rintro e w1 ⟨rfl, hb1⟩; have HB1 := Lib.hid hb1; clear hb1) | (go_at_call 33; refine (HC.out _ (HA.out.below HB1.out) (HG.out.next HB1.out)).mono ?_; rintro e w2 ⟨rfl, hb2⟩; have HB2 := Lib.hid (HB1.out.trans (hb2.mono HB1.out.size)); clear hb2) | (go_at_call 41; refine (pack_any _ [num x, y] _ (strs_new w2 [num x, y] _ 2) HPL.out (by simp; omega) ((HG.out.next HB2.out).next ((Below.refl _ w2).alloc (Nat.le_refl _) _))).mono ?_; rintro e w3 ⟨rfl, hb3⟩))
  go_ret
  exact ⟨by rw [HT.out]; rfl, HB2.out.trans ((((Below.refl _ w2).alloc (Nat.le_refl _) _).trans (hb3.mono (by simp))).mono HB2.out.size)⟩
theorem install_off (rv c : Value) (x : Int) (w : World) (h : x ≠ 3) (hst : Calls Tryd.prog 31 #[rv] w fun e w' => e = .returned (.int .i64 x) ∧ w = w') :
    Calls Tryd.prog 30 #[rv, c] w fun e w' => e = .returned (.int .i64 7) ∧ w = w' := by
  have HS := Lib.hid hst
  have hx : (x != 3) = true := by simpa using h
  clear hst
  go_enter Tryd.func30, Tryd.ntmps30
  go_wp2_with (go_at_call 31; refine HS.out.mono ?_; rintro e w' ⟨rfl, rfl⟩)
  go_ret
  exact ⟨rfl, rfl⟩
theorem begin_nil (w : World) : Calls Tryd.prog 26 #[.pointer none] w fun e w' => e = .returned (.int .i64 7) ∧ w = w' := by
  go_enter Tryd.func26, Tryd.ntmps26
  go_wp2_with (go_at_call 59; refine (turn_nil _ _ _).mono ?_; rintro e w' ⟨rfl, rfl⟩)
  go_ret
  exact ⟨rfl, rfl⟩
theorem pull_nil (w : World) : Calls Tryd.prog 27 #[.pointer none] w fun e w' => e = .returned (.int .i64 7) ∧ w = w' := by
  go_enter Tryd.func27, Tryd.ntmps27
  go_wp2_with (go_at_call 59; refine (turn_nil _ _ _).mono ?_; rintro e w' ⟨rfl, rfl⟩)
  go_ret
  exact ⟨rfl, rfl⟩
theorem freeze_nil (w : World) : Calls Tryd.prog 28 #[.pointer none] w fun e w' => e = .returned (.int .i64 7) ∧ w = w' := by
  go_enter Tryd.func28, Tryd.ntmps28
  go_wp2_with (go_at_call 59; refine (turn_nil _ _ _).mono ?_; rintro e w' ⟨rfl, rfl⟩)
  go_ret
  exact ⟨rfl, rfl⟩
theorem drop_nil (w : World) : Calls Tryd.prog 29 #[.pointer none] w fun e w' => e = .returned (.int .i64 7) ∧ w = w' := by
  go_enter Tryd.func29, Tryd.ntmps29
  go_wp2_with (go_at_call 59; refine (turn_nil _ _ _).mono ?_; rintro e w' ⟨rfl, rfl⟩)
  go_ret
  exact ⟨rfl, rfl⟩
abbrev opA : OpT := ⟨2, [107], [97], []⟩
abbrev opB : OpT := ⟨2, [107], [98], []⟩
abbrev opC : OpT := ⟨1, [107], [], []⟩
abbrev sh1 : Sh := ⟨1, [], cls0⟩
abbrev sh2 : Sh := ⟨1, [([107], [97])], cls0.set 0 ⟨5, 0, []⟩⟩
abbrev sh3 : Sh := ⟨2, [([107], [97])], cls0.set 0 ⟨5, 0, []⟩⟩
theorem case_a : doS sh1 0 5 opA = (sh2, ⟨5, 0, []⟩, true, 0) := rfl
theorem case_b : doS sh2 0 5 opB = (sh2, ⟨5, 0, []⟩, false, 0) := rfl
theorem case_c : doS sh3 0 6 opC = (sh3, cl0, false, 7) := rfl
theorem sh1_ok : ShOk sh1 := shOk_new 1 (by omega)
theorem sh2_ok : ShOk sh2 := by have := doS_ok sh1_ok 0 5 opA; rw [case_a] at this; exact this
theorem sh3_ok : ShOk sh3 := ⟨by simp, sh2_ok.tab, sh2_ok.eight, sh2_ok.cl⟩
/-- a shard of a call's own: all that it has lies in new memory -/
def Own (a w : World) (s : Nat) (h : Sh) : Prop := ∃ p v, ShardAt w s p v h ∧ (∀ b, Foot s p v b → a.heap.size ≤ b) ∧ Below a.heap.size a w
theorem Own.bl {a w : World} {s : Nat} {h : Sh} (o : Own a w s h) : Below a.heap.size a w := by obtain ⟨_, _, _, _, hb⟩ := o; exact hb
theorem Own.next {a w w' : World} {s : Nat} {h : Sh} (o : Own a w s h) (hb : Below w.heap.size w w') : Own a w' s h := by
  obtain ⟨p, v, ha, hf, hw⟩ := o
  exact ⟨p, v, ha.below hb, hf, hw.trans (hb.mono hw.size)⟩
theorem Own.alloc {a w : World} {s : Nat} {h : Sh} (o : Own a w s h) (x : Obj) : Own a (w.alloc x) s h := o.next ((Below.refl _ w).alloc (Nat.le_refl _) x)
theorem Own.drew {a w : World} {s : Nat} {h : Sh} (o : Own a w s h) : Own a w.drew s h := o.next (Below.refl _ w).drew
theorem Own.turned {a w w' : World} {s p : Nat} {v : Value} {h' : Sh} (hf : ∀ b, Foot s p v b → a.heap.size ≤ b) (hw : Below a.heap.size a w) (t : Turned w w' s p v h') : Own a w' s h' := by
  obtain ⟨p', v', ha, hn⟩ := t.ex
  refine ⟨p', v', ha, fun b hb => ?_, ?_⟩
  · rcases hn b hb with h | h
    · exact hf b h
    · exact Nat.le_trans hw.size h
  · exact ((Only.of_below hw).trans (t.only.mono (fun k _ hk => hf k hk))).below (Nat.le_refl _) (fun k hk => hk)
theorem own_new (a : World) : Calls Tryd.prog 23 #[] a fun e w' => ∃ s, e = .returned (.pointer (some ⟨s, 0, none⟩)) ∧ Own a w' s sh0 :=
  (shnew_any a).mono fun _ _ ⟨he, ha, hb⟩ => ⟨_, he, _, _, ha, (fun b hf => by
    rcases hf with rfl | rfl | hf
    · omega
    · omega
    · cases hf), hb⟩
theorem own_new2 (a w : World) (hb : Below a.heap.size a w) : Calls Tryd.prog 23 #[] w fun e w' => ∃ s, e = .returned (.pointer (some ⟨s, 0, none⟩)) ∧ Own a w' s sh0 ∧ Below w.heap.size w w' :=
  (shnew_any w).mono fun _ _ ⟨he, ha, hb'⟩ => ⟨_, he, ⟨_, _, ha, (fun b hf => by
    have := hb.size
    rcases hf with rfl | rfl | hf
    · omega
    · omega
    · cases hf), hb.trans (hb'.mono hb.size)⟩, hb'⟩
theorem own_status {a w : World} {s : Nat} {h : Sh} (o : Own a w s h) : Calls Tryd.prog 31 #[.pointer (some ⟨s, 0, none⟩)] w fun e w' => e = .returned (.int .i64 h.st) ∧ w = w' := by
  obtain ⟨p, v, ha, _, _⟩ := o; exact status_any s p v h w ha
theorem own_content {a w : World} {s : Nat} {h : Sh} (o : Own a w s h) (ho : ShOk h) (hg : Glob w) : Calls Tryd.prog 33 #[.pointer (some ⟨s, 0, none⟩)] w fun e w' => e = .returned (S (contentS h)) ∧ Below w.heap.size w w' := by
  obtain ⟨p, v, ha, _, _⟩ := o; exact content_any s p v h w ha ho hg
theorem own_text {a w : World} {s : Nat} {h : Sh} (o : Own a w s h) (ho : ShOk h) (hg : Glob w) : Calls Tryd.prog 35 #[.pointer (some ⟨s, 0, none⟩)] w fun e w' => e = .returned (S (textS h)) ∧ Below w.heap.size w w' := by
  obtain ⟨p, v, ha, _, _⟩ := o; exact stext_any s p v h w ha ho hg
theorem own_do {a w : World} {s : Nat} {h : Sh} (o : Own a w s h) (ho : ShOk h) (c n : Int) (q : OpT) : Calls Tryd.prog 34 #[.pointer (some ⟨s, 0, none⟩), .int .i64 c, .int .i64 n, opV q] w fun e w' =>
    e = .returned (.tuple #[ansV (doS h c n q).2.1, .bool (doS h c n q).2.2.1, .int .i64 (doS h c n q).2.2.2]) ∧ Own a w' s (doS h c n q).1 := by
  obtain ⟨p, v, ha, hf, hw⟩ := o
  exact (sdo_any s p v h w ha ho c n q).mono fun _ _ ⟨he, ht⟩ => ⟨he, Own.turned hf hw ht⟩
theorem own_begin {a w : World} {s : Nat} {h : Sh} (o : Own a w s h) : Calls Tryd.prog 26 #[.pointer (some ⟨s, 0, none⟩)] w fun e w' => e = .returned (.int .i64 (turnS h 0 1).2) ∧ Own a w' s (turnS h 0 1).1 := by
  obtain ⟨p, v, ha, hf, hw⟩ := o
  exact (begin_any s p v h w ha).mono fun _ _ ⟨he, ht⟩ => ⟨he, Own.turned hf hw ht⟩
theorem own_pull {a w : World} {s : Nat} {h : Sh} (o : Own a w s h) : Calls Tryd.prog 27 #[.pointer (some ⟨s, 0, none⟩)] w fun e w' => e = .returned (.int .i64 (turnS h 0 3).2) ∧ Own a w' s (turnS h 0 3).1 := by
  obtain ⟨p, v, ha, hf, hw⟩ := o
  exact (pull_any s p v h w ha).mono fun _ _ ⟨he, ht⟩ => ⟨he, Own.turned hf hw ht⟩
theorem own_freeze {a w : World} {s : Nat} {h : Sh} (o : Own a w s h) : Calls Tryd.prog 28 #[.pointer (some ⟨s, 0, none⟩)] w fun e w' => e = .returned (.int .i64 (turnS h 1 2).2) ∧ Own a w' s (turnS h 1 2).1 := by
  obtain ⟨p, v, ha, hf, hw⟩ := o
  exact (freeze_any s p v h w ha).mono fun _ _ ⟨he, ht⟩ => ⟨he, Own.turned hf hw ht⟩
theorem own_drop {a w : World} {s : Nat} {h : Sh} (o : Own a w s h) (ho : ShOk h) : Calls Tryd.prog 29 #[.pointer (some ⟨s, 0, none⟩)] w fun e w' => e = .returned (.int .i64 (dropS h).2) ∧ Own a w' s (dropS h).1 := by
  obtain ⟨p, v, ha, hf, hw⟩ := o
  exact (drop_any s p v h w ha ho.eight).mono fun _ _ ⟨he, ht⟩ => ⟨he, Own.turned hf hw ht⟩
theorem serve_a {a w : World} {s : Nat} (o : Own a w s sh1) : Calls Tryd.prog 34 #[.pointer (some ⟨s, 0, none⟩), .int .i64 0, .int .i64 5, .agg #[.int .i64 2, .string ⟨#[107]⟩, .string ⟨#[97]⟩, .string ⟨#[]⟩]] w fun e w' =>
    e = .returned (.tuple #[.agg #[.int .i64 0, .string ⟨#[]⟩], .bool true, .int .i64 0]) ∧ Own a w' s sh2 := by
  have := own_do o sh1_ok 0 5 opA
  rw [case_a] at this; exact this
theorem serve_b {a w : World} {s : Nat} (o : Own a w s sh2) : Calls Tryd.prog 34 #[.pointer (some ⟨s, 0, none⟩), .int .i64 0, .int .i64 5, .agg #[.int .i64 2, .string ⟨#[107]⟩, .string ⟨#[98]⟩, .string ⟨#[]⟩]] w fun e w' =>
    e = .returned (.tuple #[.agg #[.int .i64 0, .string ⟨#[]⟩], .bool false, .int .i64 0]) ∧ Own a w' s sh2 := by
  have := own_do o sh2_ok 0 5 opB
  rw [case_b] at this; exact this
theorem serve_c {a w : World} {s : Nat} (o : Own a w s sh3) : Calls Tryd.prog 34 #[.pointer (some ⟨s, 0, none⟩), .int .i64 0, .int .i64 6, .agg #[.int .i64 1, .string ⟨#[107]⟩, .string ⟨#[]⟩, .string ⟨#[]⟩]] w fun e w' =>
    e = .returned (.tuple #[.agg #[.int .i64 0, .string ⟨#[]⟩], .bool false, .int .i64 7]) ∧ Own a w' s sh3 := by
  have := own_do o sh3_ok 0 6 opC
  rw [case_c] at this; exact this
theorem own_begin0 {a w : World} {s : Nat} (o : Own a w s sh0) : Calls Tryd.prog 26 #[.pointer (some ⟨s, 0, none⟩)] w fun e w' => e = .returned (.int .i64 0) ∧ Own a w' s sh1 := own_begin o
theorem own_freeze2 {a w : World} {s : Nat} (o : Own a w s sh2) : Calls Tryd.prog 28 #[.pointer (some ⟨s, 0, none⟩)] w fun e w' => e = .returned (.int .i64 0) ∧ Own a w' s sh3 := own_freeze o
theorem own_status3 {a w : World} {s : Nat} (o : Own a w s sh3) : Calls Tryd.prog 31 #[.pointer (some ⟨s, 0, none⟩)] w fun e w' => e = .returned (.int .i64 2) ∧ w = w' := own_status o
set_option maxHeartbeats 400000 in
theorem serves_any (w : World) : Calls Tryd.prog 24 #[] w fun e w' => e = .returned (.bool true) ∧ Below w.heap.size w w' := by
  go_enter Tryd.func24, Tryd.ntmps24
  go_wp2_with fail
  go_at_call 23
  refine (own_new w).mono ?_
  rintro e w1 ⟨s, rfl, o1⟩
  have O1 := Lib.hid o1
  clear o1
  go_wp2_with (first | (go_at_call 26; refine (own_begin0 O1.out).mono ?_; rintro e w2 ⟨rfl, o2⟩; have O2 : Hid (Own w w2 s sh1) := Lib.hid o2; clear o2) | (go_at_call 34; with_reducible refine (serve_a O2.out).mono ?_; rintro e w3 ⟨rfl, o3⟩; have O3 : Hid (Own w w3 s sh2) := Lib.hid o3; clear o3))
  go_wp2_with (first | (go_at_call 34; with_reducible refine (serve_b (O3.out.alloc _)).mono ?_; rintro e w4 ⟨rfl, o4⟩; have O4 : Hid (Own w w4 s sh2) := Lib.hid o4; clear o4) | (go_at_call 28; with_reducible refine (own_freeze2 (O4.out.alloc _)).mono ?_; rintro e w5 ⟨rfl, o5⟩; have O5 : Hid (Own w w5 s sh3) := Lib.hid o5; clear o5) | (go_at_call 34; with_reducible refine (serve_c O5.out).mono ?_; rintro e w6 ⟨rfl, o6⟩; have O6 : Hid (Own w w6 s sh3) := Lib.hid o6; clear o6) | (go_at_call 31; with_reducible refine (own_status3 (O6.out.alloc _)).mono ?_; rintro e w7 ⟨rfl, rfl⟩))
  go_ret
  exact ⟨rfl, (O6.out.alloc _).bl⟩
end Go.Proofs.YtocgnkenlfdffaaDoor
