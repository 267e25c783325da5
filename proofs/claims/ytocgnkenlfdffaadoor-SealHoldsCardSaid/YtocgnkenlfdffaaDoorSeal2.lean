/- package seal: tags. -/
import Derived.Test.YtocgnkenlfdffaaDoorSeal1
import Derived.Test.YtocgnkenlfdffaaDoorBlk4
import Derived.Test.YtocgnkenlfdffaaDoorGlobB
import Derived.Deep.CutRange
import Derived.Lib.ConvBytes
namespace Go.Proofs.YtocgnkenlfdffaaDoor
open Go Go.RowKit Go.Wap
theorem sumF_len (K X : Bytes) : (sumF K X).length = 32 := by simp [sumF]
theorem sum_gen (K X : Bytes) (w : World) (hK : K.length ≤ 32) (hX : X.length < 281474976710656) (hg : GlobB w) :
    Calls Tryd.prog 68 #[S K, S X] w fun e w' => ∃ T : Bytes, T.length = 32 ∧ Hid (T = sumF K X) ∧ e = .returned (.tuple #[S T, .int .i64 0]) ∧ Below w.heap.size w w' :=
  (sum_any K X w hK hX hg.start hg.rows hg.g.big).mono fun _ _ ⟨he, hb⟩ => ⟨sumF K X, sumF_len K X, Lib.hid rfl, he, hb⟩
def tagF (K X : Bytes) (g n : Int) : Bytes := (sumF (sumF K (nameF g n)) X).take 16
/-- a ring -/
def IsRing (w : World) (r : Nat) (K : Bytes) : Prop := w.cell? ⟨r, 0, none⟩ = some (S K)
theorem bytesV_one (l : Bytes) : (bytesV l).all (·.oneCell') = true := by simp [bytesV, Value.oneCell']
theorem wpList_conv {P : Program} {w : World} {ops : Array Oper} {rest : List Oper} {o : Oper} {a : Act} {Q : Exit → Act → World → Prop} (hgd : o.guard = none) (src dst e : TypeId) (x : Operand) (ho : o.op = .convert src dst x) (l : Bytes)
    (hx : a.eval x = .string ⟨l.toArray⟩) (hs : P.underlying src = some .string) (hd : P.underlying dst = some (.slice e)) (he : P.underlying e = some (.int .u8))
    (h : ∀ c, wpList P ops Q rest (a.put o.dst (.slice (some ⟨w.heap.size, 0, none⟩) l.length c)) (Lib.bytesWorld w e ⟨l.toArray⟩)) : wpList P ops Q (o :: rest) a w :=
  wpList_plain hgd fun K hK => by
    have hsz : (⟨l.toArray⟩ : ByteArray).size = l.length := by show l.toArray.size = _; simp
    unfold Oper.wp execOp
    simp only [ho, hx, Sem.run_bind, Lib.run_convert_string_bytes w src dst e ⟨l.toArray⟩ hs hd he, Result.andThen_ok, hsz]
    exact hK _ _ (h _)
theorem load_bytes {P : Program} (w : World) (e ty : TypeId) (l : Bytes) (n : Nat) (d : TypeDesc) (hn : l.length = n) (hu : P.underlying ty = some d) (hd : aggT d = true) (hi : (P.info? ty).map (·.size) = some n) :
    (loadVar ty ⟨w.heap.size, 0, none⟩).run P (Lib.bytesWorld w e ⟨l.toArray⟩) = .ok (.agg (bytesV l)) (Lib.bytesWorld w e ⟨l.toArray⟩) := by
  have hl : (loadCells ⟨w.heap.size, 0, none⟩ (bytesV l).toList.length).run P (Lib.bytesWorld w e ⟨l.toArray⟩) = .ok (bytesV l).toList.toArray (Lib.bytesWorld w e ⟨l.toArray⟩) :=
    run_loadCells_list (P := P) _ ⟨w.heap.size, 0, none⟩ (bytesV l).toList (fun j v hv => by
      have hadd : (⟨w.heap.size, 0, none⟩ : Addr).add j = ⟨w.heap.size, j, none⟩ := by unfold Addr.add; split <;> simp_all
      have hj : j < l.length := by
        have := (List.getElem?_eq_some_iff.1 hv).1
        simpa [bytesV] using this
      rw [hadd, Lib.bytesWorld_cell w e _ j (by show j < l.toArray.size; simpa using hj)]
      rw [Array.getElem?_toList, bytesV_at l j hj] at hv
      simpa using hv)
  cases hq : P.info? ty with
  | none => simp [hq] at hi
  | some i =>
    have hs : i.size = (bytesV l).size := by rw [bytesV_size, hn]; simpa [hq] using hi
    have hagg : (isAgg ty).run P (Lib.bytesWorld w e ⟨l.toArray⟩) = .ok true (Lib.bytesWorld w e ⟨l.toArray⟩) := by
      unfold isAgg
      rw [Sem.run_bind, run_underlying hu]
      cases d <;> simp_all [aggT]
    simp only [Array.length_toList, Array.toArray_toList] at hl
    simp [loadVar, Sem.run_bind, hagg, sizeOf, typeInfo, hq, hs, hl]
theorem wpList_load_bytes {P : Program} {w : World} {ops : Array Oper} {rest : List Oper} {o : Oper} {a : Act} {Q : Exit → Act → World → Prop} (hgd : o.guard = none) (ty e : TypeId) (x : Operand) (ho : o.op = .load ty x) (l : Bytes) (n : Nat) (d : TypeDesc)
    (hx : a.eval x = .pointer (some ⟨w.heap.size, 0, none⟩)) (hn : l.length = n) (hu : P.underlying ty = some d) (hd : aggT d = true) (hi : (P.info? ty).map (·.size) = some n)
    (h : wpList P ops Q rest (a.put o.dst (.agg (bytesV l))) (Lib.bytesWorld w e ⟨l.toArray⟩)) : wpList P ops Q (o :: rest) a (Lib.bytesWorld w e ⟨l.toArray⟩) :=
  wpList_plain hgd fun K hK => by
    unfold Oper.wp execOp
    simp only [ho, hx, Instr.loadAt, Instr.sureAddr, Sem.run_bind, Sem.run_pure, Result.andThen_ok, load_bytes w e ty l n d hn hu hd hi]
    exact hK _ _ h
theorem arr16Under : Tryd.prog.underlying 95 = some (.array 16 5) := by kernel_rfl
theorem run_arrayAt {P : Program} {W : World} (arr : TypeId) (n : Nat) (e : TypeId) (hu : P.underlying arr = some (.array n e)) (A : Option Addr) (len c : Nat) (h : n ≤ len) : (Instr.arrayAt arr (.slice A len c)).run P W = .ok (.pointer A) W := by
  unfold Instr.arrayAt
  rw [Sem.run_bind, run_underlying hu W]
  simp [Result.andThen, show ¬ len < n by omega]
def z16 : Bytes := List.replicate 16 0
theorem stamp_no (rv : Value) (g n : Int) (X : Bytes) (w : World) (h : ¬ IsP g n) : Calls Tryd.prog 44 #[rv, pV g n, S X] w fun e w' =>
    e = .returned (.tuple #[.agg (bytesV z16), .int .i64 1]) ∧ Below w.heap.size w w' := by
  have hb0 := ((Below.refl w.heap.size w).alloc (Nat.le_refl _) (.cells #[.int .i64 g, .int .i64 n] 23)).alloc (by simp) (.cells (bytesV z16) 95)
  have r0 : RowV ((w.alloc (.cells #[.int .i64 g, .int .i64 n] 23)).alloc (.cells (bytesV z16) 95)) (w.heap.size + 1) 95 (bytesV z16) := heap_alloc2_new _ _ _
  go_enter Tryd.func44, Tryd.ntmps44
  go_wp2_with (first | (go_at_call 39; refine (name_no g n _ h).mono ?_; rintro e w1 ⟨rfl, hb1⟩; have r1 := r0.below hb1 (by simp)) | (refine wpList_store_row rfl 95 _ _ rfl (w.heap.size + 1) (bytesV z16) rfl rfl 95 (bytesV z16) r1 (by kernel_rfl) rfl (bytesV_one _) ?_))
  refine bodyPost_ret (results_row_tmp rfl _ rfl (r1.set _) arr16Under rfl (by kernel_rfl)) rfl ?_
  exact ⟨rfl, below_setRow (hb0.trans (hb1.mono hb0.size)) (by omega)⟩
set_option maxRecDepth 100000 in
set_option maxHeartbeats 1000000 in
theorem stamp_ok (r : Nat) (K : Bytes) (g n : Int) (X : Bytes) (w : World) (h : IsP g n) (hr : IsRing w r K) (hK : K.length ≤ 32) (hX : X.length < 281474976710656) (hg : GlobB w) : Calls Tryd.prog 44 #[.pointer (some ⟨r, 0, none⟩), pV g n, S X] w fun e w' =>
    e = .returned (.tuple #[.agg (bytesV (tagF K X g n)), .int .i64 0]) ∧ Below w.heap.size w w' := by
  have hb0 := ((Below.refl w.heap.size w).alloc (Nat.le_refl _) (.cells #[.int .i64 g, .int .i64 n] 23)).alloc (by simp) (.cells (bytesV z16) 95)
  have r0 : RowV ((w.alloc (.cells #[.int .i64 g, .int .i64 n] 23)).alloc (.cells (bytesV z16) 95)) (w.heap.size + 1) 95 (bytesV z16) := heap_alloc2_new _ _ _
  have hrl : r < w.heap.size := World.block_lt_of_cell? w ⟨r, 0, none⟩ hr
  have hg0 := hg.next hb0
  have ig : InI g := by unfold IsP at h; unfold InI; omega
  have iN : InI n := by unfold IsP at h; unfold InI; omega
  have hnl := name_len g n ig iN
  have HG := Lib.hid hg0; have HR := Lib.hid r0; clear hg hg0 r0
  go_enter Tryd.func44, Tryd.ntmps44
  go_upto_region 8 with (first | (go_at_call 39; refine (name_ok g n _ h HG.out.g).mono ?_; rintro e w1 ⟨rfl, hb1⟩; have r1 := HR.out.below hb1 (by simp); have hb01 := hb0.trans (hb1.mono hb0.size); have hrc := (hb01.cell (p := ⟨r, 0, none⟩) hrl).trans hr; have hg1 := Lib.hid (HG.out.next hb1); have r1h := Lib.hid r1; clear r1) | (go_at_call 68; refine (sum_gen T1 X w2 (by omega) hX hg2.out).mono ?_; rintro e w3 ⟨T2, hl2, hT2, rfl, hb3⟩; have hb03 := hb02.trans (hb3.mono hb02.size); have r3h := Lib.hid (r2h.out.below hb3 r2h.out.lt)) | (go_at_call 68; refine (sum_gen K (nameF g n) w1 hK (by omega) hg1.out).mono ?_; rintro e w2 ⟨T1, hl1, hT1, rfl, hb2⟩; have hg2 := Lib.hid (hg1.out.next hb2); have hb02 := hb01.trans (hb2.mono hb01.size); have r2h := Lib.hid (r1h.out.below hb2 r1h.out.lt)))
  have h16 : (T2.take 16).length = 16 := by rw [List.length_take]; omega
  have htag : T2.take 16 = tagF K X g n := by unfold tagF; rw [← hT1.out, ← hT2.out]
  have hex : (⟨T2.toArray⟩ : ByteArray).extract 0 16 = ⟨(T2.take 16).toArray⟩ := by rw [ba_extract]; simp
  have HT := Lib.hid htag
  generalize hT3 : T2.take 16 = T3 at h16 hex
  rw [hT3] at HT
  have hB := hb03.trans ((Lib.bytesWorld_below w3 5 ⟨T3.toArray⟩).mono hb03.size)
  have r4 := r3h.out.below (Lib.bytesWorld_below w3 5 ⟨T3.toArray⟩) r3h.out.lt
  have R4 := Lib.hid r4
  clear hb0 hb1 hb2 hb3 hb01 hb02 hrc hg1 hg2 r1h r2h hT1 hT2 htag r4 HG HR hT3
  have hl2' : (⟨T2.toArray⟩ : ByteArray).size = 32 := by show T2.toArray.size = _; simpa using hl2
  have hat : ∀ c W, (Instr.arrayAt 95 (.slice (some ⟨w3.heap.size, 0, none⟩) 16 c)).run Tryd.prog W = .ok (.pointer (some ⟨w3.heap.size, 0, none⟩)) W := fun c W => run_arrayAt _ 16 _ arr16Under _ _ _ (Nat.le_refl _)
  go_wp2_with (first | (refine wpList_conv rfl 9 98 5 (.tmp 44) rfl T3 rfl (by kernel_rfl) (by kernel_rfl) (by kernel_rfl) ?_; intro c; rw [h16]) | (refine wpList_load_bytes rfl 95 5 (.tmp 46) rfl T3 16 _ rfl h16 arr16Under rfl (by kernel_rfl) ?_) | (refine wpList_store_row rfl 95 (.tmp 6) (.tmp 47) rfl (w.heap.size + 1) (bytesV T3) rfl rfl 95 (bytesV z16) R4.out (by rw [bytesV_size, h16]; kernel_rfl) (by rw [bytesV_size, bytesV_size, h16]; rfl) (bytesV_one _) ?_))
  refine bodyPost_ret (results_row_tmp rfl _ rfl (R4.out.set _) arr16Under rfl (by rw [bytesV_size, h16]; kernel_rfl)) rfl ?_
  exact ⟨by rw [HT.out]; rfl, below_setRow hB (by omega)⟩
end Go.Proofs.YtocgnkenlfdffaaDoor
