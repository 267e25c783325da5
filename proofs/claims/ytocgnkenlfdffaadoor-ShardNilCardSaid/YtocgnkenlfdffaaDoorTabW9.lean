/- package table: Load. -/
import Derived.Test.YtocgnkenlfdffaaDoorTabW8
import Derived.Test.YtocgnkenlfdffaaDoorTab2
import Derived.Test.YtocgnkenlfdffaaDoorUnp
import Derived.Deep.AppendLies
namespace Go.Proofs.YtocgnkenlfdffaaDoor
open Go Go.RowKit Go.Wap
/-- what Load answers -/
def LoadIs (o : Option Tab) (w : World) (e : Ending) (w' : World) : Prop :=
  Below w.heap.size w w' ∧ match o with
  | none => e = .returned (.tuple #[.pointer none, .int .i64 4])
  | some t => ∃ p v, e = .returned (.tuple #[.pointer (some ⟨p, 0, none⟩), .int .i64 0]) ∧ TableAt w' p v t ∧ w.heap.size ≤ p ∧ ∀ g, v.ownBlock = some g → w.heap.size ≤ g
/-- the loop of Load -/
structure LoadInv (w wr : World) (p : Nat) (l : List Bytes) (j : Nat) (v : Value) : Prop where
  even : j % 2 = 0
  le : j ≤ l.length
  good : ∀ q, q % 2 = 0 → q < j → goodAt l q
  row : RowV wr p 153 #[v]
  own : wr.ownsRow w.heap.size 163 2 v (j / 2) ((l.take j).map S)
  ne : v.ownBlock ≠ some p
  below : Below w.heap.size w wr
theorem ownsRow_below {w w' : World} {b : Nat} {e : TypeId} {size : Nat} {v : Value} {n : Nat} {xs : List Value} (h : w.ownsRow b e size v n xs) (hb : Below w.heap.size w w') : w'.ownsRow b e size v n xs :=
  ⟨h.1, by
    rcases h.2 with h2 | ⟨g, cap, cur, rfl, h3, hh, hr⟩
    · exact .inl h2
    · exact .inr ⟨g, cap, cur, rfl, h3, (hb.block g (Array.getElem?_eq_some_iff.1 hh).1).trans hh, hr⟩⟩
theorem LoadInv.next {w wr wr' : World} {p : Nat} {l : List Bytes} {j : Nat} {v : Value} (h : LoadInv w wr p l j v) (hb : Below wr.heap.size wr wr') : LoadInv w wr' p l j v :=
  ⟨h.even, h.le, h.good, h.row.below hb h.row.lt, ownsRow_below h.own hb, h.ne, h.below.trans (hb.mono h.below.size)⟩
theorem keep4 {w w1 w2 : World} {a b c : Addr} {x y z : Value} (h : w1.cell? a = some x ∧ w1.cell? b = some y ∧ w1.cell? c = some z ∧ Below w.heap.size w w1) (hb : Below w1.heap.size w1 w2) : w2.cell? a = some x ∧ w2.cell? b = some y ∧ w2.cell? c = some z ∧ Below w.heap.size w w2 :=
  ⟨(hb.cell (World.block_lt_of_cell? w1 a h.1)).trans h.1, (hb.cell (World.block_lt_of_cell? w1 b h.2.1)).trans h.2.1, (hb.cell (World.block_lt_of_cell? w1 c h.2.2.1)).trans h.2.2.1, h.2.2.2.trans (hb.mono h.2.2.2.size)⟩
theorem keepC {w1 w2 : World} {a b c : Addr} {x y z : Value} (h : w1.cell? a = some x ∧ w1.cell? b = some y ∧ w1.cell? c = some z) (hb : Below w1.heap.size w1 w2) : w2.cell? a = some x ∧ w2.cell? b = some y ∧ w2.cell? c = some z :=
  ⟨(hb.cell (World.block_lt_of_cell? w1 a h.1)).trans h.1, (hb.cell (World.block_lt_of_cell? w1 b h.2.1)).trans h.2.1, (hb.cell (World.block_lt_of_cell? w1 c h.2.2)).trans h.2.2⟩
theorem own_base {w : World} {b : Nat} {e : TypeId} {size : Nat} {v : Value} {n : Nat} {xs : List Value} (h : w.ownsRow b e size v n xs) {g : Nat} (hg : v.ownBlock = some g) : b ≤ g := by
  rcases h.2 with ⟨rfl, _⟩ | ⟨g', cap, cur, rfl, hb, _⟩
  · cases hg
  · cases hg; exact hb
theorem take_two (l : List Bytes) (j : Nat) (x y : Bytes) (h : j < l.length) (h1 : j + 1 < l.length) (hx : l.getD j [] = x) (hy : l.getD (j + 1) [] = y) : l.take (j + 2) = l.take j ++ [x, y] := by
  rw [List.take_succ_eq_append_getElem (show j + 1 < l.length from h1), List.take_succ_eq_append_getElem h]
  rw [List.getD, List.getElem?_eq_getElem h] at hx
  rw [List.getD, List.getElem?_eq_getElem h1] at hy
  simp only [Option.getD_some] at hx hy
  rw [hx, hy]; simp
theorem keep3 {w w1 w2 : World} {a b : Addr} {x y : Value} (h : w1.cell? a = some x ∧ w1.cell? b = some y ∧ Below w.heap.size w w1) (hb : Below w1.heap.size w1 w2) : w2.cell? a = some x ∧ w2.cell? b = some y ∧ Below w.heap.size w w2 :=
  ⟨(hb.cell (World.block_lt_of_cell? w1 a h.1)).trans h.1, (hb.cell (World.block_lt_of_cell? w1 b h.2.1)).trans h.2.1, h.2.2.trans (hb.mono h.2.2.size)⟩
set_option maxRecDepth 100000 in
theorem tload_none (s : Bytes) (w : World) (hu : unpack s = none) (hs : s.length < 4294967281) (hg : Glob w) :
    Calls Tryd.prog 76 #[S s] w (LoadIs (loadT s) w) := by
  have HG := Lib.hid hg; have HU := Lib.hid hu
  clear hg hu
  go_enter Tryd.func76, Tryd.ntmps76
  go_wp2_with (go_at_call 42; refine (unpack_nope s _ HU.out hs HG.out).mono ?_; rintro e w1 ⟨rfl, hb⟩)
  go_ret2
  unfold LoadIs
  rw [loadT_none HU.out]
  exact ⟨hb, rfl⟩
set_option maxRecDepth 100000 in
theorem tload_odd (s : Bytes) (l : List Bytes) (w : World) (hu : unpack s = some l) (hl : l.length % 2 ≠ 0 ∨ 32 < l.length) (hs : s.length < 4294967281) (hg : Glob w) :
    Calls Tryd.prog 76 #[S s] w (LoadIs (loadT s) w) := by
  have HG := Lib.hid hg; have HU := Lib.hid hu
  have hll : l.length ≤ 4294967281 := by have := pack_length_ge l; rw [(unpack_some.1 hu).1] at this; omega
  have HL := Lib.hid hl
  have hb : ((l.length : Int) % 2 != 0) = decide (l.length % 2 ≠ 0) := by
    by_cases h : l.length % 2 = 0
    · have : (l.length : Int) % 2 = 0 := by omega
      simp [h, this]
    · have : ¬ (l.length : Int) % 2 = 0 := by omega
      simp [h, this]
  clear hg hu
  by_cases hl1 : l.length % 2 = 0
  · have hl2 : 32 < l.length := by rcases hl with h | h; exact absurd hl1 h; exact h
    have hm : (l.length : Int) % 2 = 0 := by omega
    clear hl hl1 hb
    go_enter Tryd.func76, Tryd.ntmps76
    go_wp2_with (go_at_call 42; refine (unpack_yes s l _ HU.out hs HG.out).mono ?_; rintro e w1 ⟨A, c, rfl, hst, hb⟩)
    go_ret2
    unfold LoadIs
    rw [loadT_odd HU.out HL.out]
    exact ⟨hb, rfl⟩
  · have hm : (l.length : Int) % 2 = 1 := by omega
    clear hl hb hl1
    go_enter Tryd.func76, Tryd.ntmps76
    go_wp2_with (go_at_call 42; refine (unpack_yes s l _ HU.out hs HG.out).mono ?_; rintro e w1 ⟨A, c, rfl, hst, hb⟩)
    go_ret2
    unfold LoadIs
    rw [loadT_odd HU.out HL.out]
    exact ⟨hb, rfl⟩
set_option maxRecDepth 100000 in
set_option maxHeartbeats 1000000 in
theorem tload_even (s : Bytes) (l : List Bytes) (w : World) (hu : unpack s = some l) (hl1 : l.length % 2 = 0) (hl2 : l.length ≤ 32) (hs : s.length < 4294967281) (hg : Glob w) :
    Calls Tryd.prog 76 #[S s] w (LoadIs (loadT s) w) := by
  have HG := Lib.hid hg; have HU := Lib.hid hu; have HE := Lib.hid hl1
  have hm : (l.length : Int) % 2 = 0 := by omega
  obtain ⟨i0, hq, hz0', hz1, hz2⟩ := info_parts rowInfo
  clear hg hu hl1
  go_enter Tryd.func76, Tryd.ntmps76
  go_wp2_with (first | (go_at_call 42; refine (unpack_yes s l _ HU.out hs HG.out).mono ?_; rintro e w1 ⟨A, c, rfl, hst, hb⟩) | (go_at_call 57; refine (tnew_any _).mono ?_; rintro e w2 ⟨rfl, rfl⟩))
  have HST := Lib.hid hst; have HB := Lib.hid hb
  clear hst hb hm
  go_loopw [7] (fun i wr => ∃ (j : Nat) (v : Value), i = .int .i64 j ∧ LoadInv w1 wr w1.heap.size l j v) (fun i _ => l.length - (intOf i).toNat)
  case atStart => exact ⟨0, _, rfl, ⟨rfl, Nat.zero_le _, fun q _ h => by omega, RowV.new w1 _ _, World.ownsRow_nil _ _ _ _, by simp [Value.ownBlock], (Below.refl _ w1).alloc (Nat.le_refl _) _⟩⟩
  case round =>
    obtain ⟨j, v, rfl, hinv⟩ := hrel
    have HI := Lib.hid hinv
    have hbr := hinv.below
    have hjl := hinv.le
    have hev := hinv.even
    by_cases hlt : j < l.length
    · have hj1 : j + 1 < l.length := by have := HE.out; omega
      have hst2 := HST.out.below hbr
      obtain ⟨g, o, rfl, hcs⟩ := hst2.at (by intro h; subst h; simp at hlt)
      have ha := hcs j hlt
      have HGL : Hid (g < w1.heap.size) := Lib.hid (by
        obtain ⟨g', o', he', hc'⟩ := HST.out.at (by intro h; subst h; simp at hlt)
        cases he'
        exact World.block_lt_of_cell? w1 ⟨g, o + j, none⟩ (hc' j hlt))
      have hb := hcs (j + 1) hj1
      have HEV := Lib.hid hev
      obtain ⟨x, hx⟩ : ∃ x, x = l[j] := ⟨_, rfl⟩
      obtain ⟨y, hy⟩ : ∃ y, y = l[j + 1] := ⟨_, rfl⟩
      rw [← hx] at ha; rw [← hy] at hb
      have hX : l.getD j [] = x := by rw [hx]; simp [List.getD, hlt]
      have hY : l.getD (j + 1) [] = y := by rw [hy]; simp [List.getD, hj1]
      have HX := Lib.hid hX; have HY := Lib.hid hY
      clear hinv hbr hev hst2 hx hy hX hY
      by_cases hck : checkT ⟨2, x, y, []⟩ = 0
      · have hce : ∀ W, Calls Tryd.prog 78 #[.agg #[.int .i64 2, S x, S y, .string ⟨#[]⟩]] W fun e w' => e = .returned (.int .i64 0) ∧ Below W.heap.size W w' := fun W => by
          have := check_any ⟨2, x, y, []⟩ W
          rw [hck] at this; exact this
        have HCE := Lib.hid hce; have HCK := Lib.hid hck
        clear hce hck
        have hw1 : IntKind.i64.wrap ((j : Int) + 1) = (j : Int) + 1 := IntWalk.i64_in _ (by omega)
        have hw2 : (0 : Int) ≤ (j : Int) + 1 := by omega
        have hw3 : ((j : Int) + 1).toNat = j + 1 := by omega
        have hw4 : (j : Int) + 1 < (l.length : Int) := by omega
        by_cases hj0 : j = 0
        · have hzc : (decide ((j : Int) > 0)) = false := decide_eq_false (by omega)
          have hzd : (decide (0 < j)) = false := decide_eq_false (by omega)
          have HG0 : Hid (goodAt l j) := Lib.hid ⟨by rw [HX.out, HY.out, rowB_check, HCK.out]; rfl, fun h => by omega⟩
          clear hj0
          have hS0 : wr.drew.cell? ⟨g, o + j, none⟩ = some (S x) ∧ wr.drew.cell? ⟨g, o + (j + 1), none⟩ = some (S y) ∧ Below wr.heap.size wr wr.drew := ⟨ha, hb, (Below.refl _ wr).drew⟩
          go_wp2_with fail
          refine wp_region_noPanic ?_
          refine wp_region_held_drew (S := fun w' => w'.cell? ⟨g, o + j, none⟩ = some (S x) ∧ w'.cell? ⟨g, o + (j + 1), none⟩ = some (S y) ∧ Below wr.heap.size wr w') (by kernel_rfl) hS0 (fun hHeld => ?_)
          refine wpAnyH_take (i := 0) (oi := ⟨some 33, _, _, _, _, _⟩) (v := ?ve0) rfl (by kernel_rfl) (by kernel_rfl) (by kernel_rfl) (fun _ _ _ h => h) (Or.inl ⟨by rfl, ?hye0⟩) hHeld ?reste0
          case hye0 => (intro w hSw; (try dsimp only at hSw); go_simp; try with_reducible rfl)
          try simp only [Act.put, List.setIfInBounds_toArray, List.set_cons_zero, List.set_cons_succ]
          refine wpAnyH_take (i := 1) (oi := ⟨some 34, _, _, _, _, _⟩) (v := ?ve1) rfl (by kernel_rfl) (by kernel_rfl) (by kernel_rfl) (fun _ _ _ h => h) (Or.inl ⟨by rfl, ?hye1⟩) hHeld ?reste1
          case hye1 => (intro w hSw; (try dsimp only at hSw); go_simp; try with_reducible rfl)
          try simp only [Act.put, List.setIfInBounds_toArray, List.set_cons_zero, List.set_cons_succ]
          refine wpAnyH_take (i := 2) (oi := ⟨some 35, _, _, _, _, _⟩) (v := ?ve2) rfl (by kernel_rfl) (by kernel_rfl) (by kernel_rfl) (fun _ _ _ h => h) (Or.inl ⟨by rfl, ?hye2⟩) hHeld ?reste2
          case hye2 => (intro w hSw; (try dsimp only at hSw); go_simp; try with_reducible rfl)
          try simp only [Act.put, List.setIfInBounds_toArray, List.set_cons_zero, List.set_cons_succ]
          refine wpAnyH_take (i := 3) (oi := ⟨some 36, _, _, _, _, _⟩) (v := ?ve3) rfl (by kernel_rfl) (by kernel_rfl) (by kernel_rfl) (fun _ _ _ h => h) (Or.inl ⟨by rfl, ?hye3⟩) hHeld ?reste3
          case hye3 => (intro w hSw; (try dsimp only at hSw); go_simp; try with_reducible rfl)
          try simp only [Act.put, List.setIfInBounds_toArray, List.set_cons_zero, List.set_cons_succ]
          refine wpAnyH_take (i := 4) (oi := ⟨some 37, _, _, _, _, _⟩) (v := ?ve4) rfl (by kernel_rfl) (by kernel_rfl) (by kernel_rfl) (fun _ _ _ h => h) (Or.inl ⟨by rfl, ?hye4⟩) hHeld ?reste4
          case hye4 => (intro w hSw; (try dsimp only at hSw); go_simp; try with_reducible rfl)
          try simp only [Act.put, List.setIfInBounds_toArray, List.set_cons_zero, List.set_cons_succ]
          refine wpAnyH_take (i := 5) (oi := ⟨some 38, _, _, _, _, _⟩) (v := ?ve5) rfl (by kernel_rfl) (by kernel_rfl) (by kernel_rfl) (fun _ _ _ h => h) (Or.inl ⟨by rfl, ?hye5⟩) hHeld ?reste5
          case hye5 => (intro w hSw; (try dsimp only at hSw); go_simp; try with_reducible rfl)
          try simp only [Act.put, List.setIfInBounds_toArray, List.set_cons_zero, List.set_cons_succ]
          refine wpAnyH_take (i := 6) (oi := ⟨some 39, _, _, _, _, _⟩) (v := ?ve6) rfl (by kernel_rfl) (by kernel_rfl) (by kernel_rfl) (fun _ _ _ h => h) (Or.inl ⟨by rfl, ?hye6⟩) hHeld ?reste6
          case hye6 => (intro w hSw; (try dsimp only at hSw); go_simp; try with_reducible rfl)
          try simp only [Act.put, List.setIfInBounds_toArray, List.set_cons_zero, List.set_cons_succ]
          refine wpAnyH_take (i := 7) (oi := ⟨some 40, _, _, _, _, _⟩) (v := ?ve7) rfl (by kernel_rfl) (by kernel_rfl) (by kernel_rfl) (fun _ _ _ h => h) (Or.inl ⟨by rfl, ?hye7⟩) hHeld ?reste7
          case hye7 => (intro w hSw; (try dsimp only at hSw); go_simp; try with_reducible rfl)
          try simp only [Act.put, List.setIfInBounds_toArray, List.set_cons_zero, List.set_cons_succ]
          refine wpAnyH_take (i := 8) (oi := ⟨some 41, _, _, _, _, _⟩) (v := ?ve8) rfl (by kernel_rfl) (by kernel_rfl) (by kernel_rfl) (fun _ _ _ h => h) (Or.inl ⟨by rfl, ?hye8⟩) hHeld ?reste8
          case hye8 => (intro w hSw; (try dsimp only at hSw); go_simp; try with_reducible rfl)
          try simp only [Act.put, List.setIfInBounds_toArray, List.set_cons_zero, List.set_cons_succ]
          refine wpAnyH_take (i := 9) (oi := ⟨some 42, _, _, _, _, _⟩) (v := ?ve9) rfl (by kernel_rfl) (by kernel_rfl) (by kernel_rfl) (fun _ _ _ h => h) (Or.inl ⟨by rfl, ?hye9⟩) hHeld ?reste9
          case hye9 => (intro w hSw; (try dsimp only at hSw); go_simp; try with_reducible rfl)
          try simp only [Act.put, List.setIfInBounds_toArray, List.set_cons_zero, List.set_cons_succ]
          refine wpAnyH_all (rs := [10]) (by kernel_rfl) (by simp) ?_
          intro i hi
          rw [List.mem_singleton] at hi
          subst hi
          refine wpOp_step (o := ⟨some 43, _, _, _, _, _⟩) rfl (fun K hK => ?_)
          rw [if_pos (by rfl)]
          go_simp
          (go_at_call 78; refine (HCE.out _).mono ?_; rintro e3 w3 ⟨rfl, hb3⟩; have hHeld3 := keep3 hHeld hb3; dsimp only)
          refine hK _ _ ⟨hHeld3, ?_⟩
          clear hK K
          try simp only [Act.put, List.setIfInBounds_toArray, List.set_cons_zero, List.set_cons_succ]
          refine wpAnyH_take (i := 11) (oi := ⟨some 44, _, _, _, _, _⟩) (v := ?vf11) rfl (by kernel_rfl) (by kernel_rfl) (by kernel_rfl) (fun _ _ _ h => h) (Or.inl ⟨by rfl, ?hyf11⟩) hHeld3 ?restf11
          case hyf11 => (intro w hSw; (try dsimp only at hSw); go_simp; try with_reducible rfl)
          try simp only [Act.put, List.setIfInBounds_toArray, List.set_cons_zero, List.set_cons_succ]
          refine wpAnyH_take (i := 12) (oi := ⟨some 45, _, _, _, _, _⟩) (v := ?vf12) rfl (by kernel_rfl) (by kernel_rfl) (by kernel_rfl) (fun _ _ _ h => h) (Or.inl ⟨by rfl, ?hyf12⟩) hHeld3 ?restf12
          case hyf12 => (intro w hSw; (try dsimp only at hSw); go_simp; try with_reducible rfl)
          try simp only [Act.put, List.setIfInBounds_toArray, List.set_cons_zero, List.set_cons_succ]
          refine wpAnyH_take (i := 13) (oi := ⟨some 46, _, _, _, _, _⟩) (v := ?vf13) rfl (by kernel_rfl) (by kernel_rfl) (by kernel_rfl) (fun _ _ _ h => h) (Or.inl ⟨by rfl, ?hyf13⟩) hHeld3 ?restf13
          case hyf13 => (intro w hSw; (try dsimp only at hSw); go_simp; try with_reducible rfl)
          try simp only [Act.put, List.setIfInBounds_toArray, List.set_cons_zero, List.set_cons_succ]
          refine wpAnyH_take (i := 14) (oi := ⟨some 47, _, _, _, _, _⟩) (v := ?vf14) rfl (by kernel_rfl) (by kernel_rfl) (by kernel_rfl) (fun _ _ _ h => h) (Or.inl ⟨by rfl, ?hyf14⟩) hHeld3 ?restf14
          case hyf14 => (intro w hSw; (try dsimp only at hSw); go_simp; try with_reducible rfl)
          try simp only [Act.put, List.setIfInBounds_toArray, List.set_cons_zero, List.set_cons_succ]
          refine wpAnyH_take (i := 15) (oi := ⟨some 48, _, _, _, _, _⟩) (v := ?vf15) rfl (by kernel_rfl) (by kernel_rfl) (by kernel_rfl) (fun _ _ _ h => h) (Or.inl ⟨by rfl, ?hyf15⟩) hHeld3 ?restf15
          case hyf15 => (intro w hSw; (try dsimp only at hSw); go_simp; try with_reducible rfl)
          try simp only [Act.put, List.setIfInBounds_toArray, List.set_cons_zero, List.set_cons_succ]
          refine wpAnyH_take (i := 16) (oi := ⟨some 49, _, _, _, _, _⟩) (v := undef) rfl (by kernel_rfl) (by kernel_rfl) (by kernel_rfl) (fun _ _ _ h => h) (Or.inr ⟨by rfl, rfl⟩) hHeld3 ?restg16
          try simp only [Act.put, List.setIfInBounds_toArray, List.set_cons_zero, List.set_cons_succ]
          refine wpAnyH_take (i := 17) (oi := ⟨some 50, _, _, _, _, _⟩) (v := undef) rfl (by kernel_rfl) (by kernel_rfl) (by kernel_rfl) (fun _ _ _ h => h) (Or.inr ⟨by rfl, rfl⟩) hHeld3 ?restg17
          try simp only [Act.put, List.setIfInBounds_toArray, List.set_cons_zero, List.set_cons_succ]
          refine wpAnyH_take (i := 18) (oi := ⟨some 51, _, _, _, _, _⟩) (v := undef) rfl (by kernel_rfl) (by kernel_rfl) (by kernel_rfl) (fun _ _ _ h => h) (Or.inr ⟨by rfl, rfl⟩) hHeld3 ?restg18
          try simp only [Act.put, List.setIfInBounds_toArray, List.set_cons_zero, List.set_cons_succ]
          refine wpAnyH_take (i := 19) (oi := ⟨some 52, _, _, _, _, _⟩) (v := undef) rfl (by kernel_rfl) (by kernel_rfl) (by kernel_rfl) (fun _ _ _ h => h) (Or.inr ⟨by rfl, rfl⟩) hHeld3 ?restg19
          try simp only [Act.put, List.setIfInBounds_toArray, List.set_cons_zero, List.set_cons_succ]
          refine wpAnyH_take (i := 20) (oi := ⟨some 53, _, _, _, _, _⟩) (v := undef) rfl (by kernel_rfl) (by kernel_rfl) (by kernel_rfl) (fun _ _ _ h => h) (Or.inr ⟨by rfl, rfl⟩) hHeld3 ?restg20
          try simp only [Act.put, List.setIfInBounds_toArray, List.set_cons_zero, List.set_cons_succ]
          refine wpAnyH_take (i := 21) (oi := ⟨some 54, _, _, _, _, _⟩) (v := undef) rfl (by kernel_rfl) (by kernel_rfl) (by kernel_rfl) (fun _ _ _ h => h) (Or.inr ⟨by rfl, rfl⟩) hHeld3 ?restg21
          try simp only [Act.put, List.setIfInBounds_toArray, List.set_cons_zero, List.set_cons_succ]
          refine wpAnyH_take (i := 22) (oi := ⟨some 55, _, _, _, _, _⟩) (v := undef) rfl (by kernel_rfl) (by kernel_rfl) (by kernel_rfl) (fun _ _ _ h => h) (Or.inr ⟨by rfl, rfl⟩) hHeld3 ?restg22
          try simp only [Act.put, List.setIfInBounds_toArray, List.set_cons_zero, List.set_cons_succ]
          refine wpAnyH_take (i := 23) (oi := ⟨some 56, _, _, _, _, _⟩) (v := undef) rfl (by kernel_rfl) (by kernel_rfl) (by kernel_rfl) (fun _ _ _ h => h) (Or.inr ⟨by rfl, rfl⟩) hHeld3 ?restg23
          try simp only [Act.put, List.setIfInBounds_toArray, List.set_cons_zero, List.set_cons_succ]
          refine wpAnyH_take (i := 24) (oi := ⟨some 57, _, _, _, _, _⟩) (v := undef) rfl (by kernel_rfl) (by kernel_rfl) (by kernel_rfl) (fun _ _ _ h => h) (Or.inr ⟨by rfl, rfl⟩) hHeld3 ?restg24
          try simp only [Act.put, List.setIfInBounds_toArray, List.set_cons_zero, List.set_cons_succ]
          refine wpAnyH_take (i := 25) (oi := ⟨some 58, _, _, _, _, _⟩) (v := undef) rfl (by kernel_rfl) (by kernel_rfl) (by kernel_rfl) (fun _ _ _ h => h) (Or.inr ⟨by rfl, rfl⟩) hHeld3 ?restg25
          try simp only [Act.put, List.setIfInBounds_toArray, List.set_cons_zero, List.set_cons_succ]
          refine wpAnyH_take (i := 26) (oi := ⟨some 59, _, _, _, _, _⟩) (v := ?vh26) rfl (by kernel_rfl) (by kernel_rfl) (by kernel_rfl) (fun _ _ _ h => h) (Or.inl ⟨by rfl, ?hyh26⟩) hHeld3 ?resth26
          case hyh26 => (intro w hSw; (try dsimp only at hSw); go_simp; try with_reducible rfl)
          try simp only [Act.put, List.setIfInBounds_toArray, List.set_cons_zero, List.set_cons_succ]
          refine wpAnyH_take (i := 27) (oi := ⟨some 60, _, _, _, _, _⟩) (v := ?vh27) rfl (by kernel_rfl) (by kernel_rfl) (by kernel_rfl) (fun _ _ _ h => h) (Or.inl ⟨by rfl, ?hyh27⟩) hHeld3 ?resth27
          case hyh27 => (intro w hSw; (try dsimp only at hSw); go_simp; try with_reducible rfl)
          try simp only [Act.put, List.setIfInBounds_toArray, List.set_cons_zero, List.set_cons_succ]
          refine wpAnyH_done (by kernel_rfl) ?_ _
          refine NoPanic.normal ?_
          have HI3 := Lib.hid (HI.out.next hHeld3.2.2)
          have ha3 := hHeld3.1
          have hb3' := hHeld3.2.1
          clear hHeld hHeld3 hS0 ha hb hb3
          go_wp2_with fail
          have hpc : w3.cell? ⟨w1.heap.size, 0, none⟩ = some v := HI3.out.row.cell 0
          refine wp_region_noPanic ?_
          refine wp_region_z (S := fun w' => w'.cell? ⟨g, o + j, none⟩ = some (S x) ∧ w'.cell? ⟨g, o + (j + 1), none⟩ = some (S y) ∧ w'.cell? ⟨w1.heap.size, 0, none⟩ = some v) 19 (by kernel_rfl) ⟨ha3, hb3', hpc⟩ (fun hHeld => ?_)
          refine wpAnyZ_take (i := 0) (oi := ⟨some 61, _, _, _, _, _⟩) (v := ?via0) rfl (by kernel_rfl) (by decide) (by kernel_rfl) (by kernel_rfl) (by kernel_rfl) (fun _ _ _ h => h) (Or.inl ⟨by rfl, ?hyia0⟩) hHeld ?restia0
          case hyia0 => (intro w hSw; (try dsimp only at hSw); go_simp; try with_reducible rfl)
          try simp only [Act.put, List.setIfInBounds_toArray, List.set_cons_zero, List.set_cons_succ]
          refine wpAnyZ_take (i := 1) (oi := ⟨some 62, _, _, _, _, _⟩) (v := ?via1) rfl (by kernel_rfl) (by decide) (by kernel_rfl) (by kernel_rfl) (by kernel_rfl) (fun _ _ _ h => h) (Or.inl ⟨by rfl, ?hyia1⟩) hHeld ?restia1
          case hyia1 => (intro w hSw; (try dsimp only at hSw); go_simp; try with_reducible rfl)
          try simp only [Act.put, List.setIfInBounds_toArray, List.set_cons_zero, List.set_cons_succ]
          refine wpAnyZ_take (i := 2) (oi := ⟨some 63, _, _, _, _, _⟩) (v := ?via2) rfl (by kernel_rfl) (by decide) (by kernel_rfl) (by kernel_rfl) (by kernel_rfl) (fun _ _ _ h => h) (Or.inl ⟨by rfl, ?hyia2⟩) hHeld ?restia2
          case hyia2 => (intro w hSw; (try dsimp only at hSw); go_simp; try with_reducible rfl)
          try simp only [Act.put, List.setIfInBounds_toArray, List.set_cons_zero, List.set_cons_succ]
          refine wpAnyZ_take (i := 3) (oi := ⟨some 64, _, _, _, _, _⟩) (v := ?via3) rfl (by kernel_rfl) (by decide) (by kernel_rfl) (by kernel_rfl) (by kernel_rfl) (fun _ _ _ h => h) (Or.inl ⟨by rfl, ?hyia3⟩) hHeld ?restia3
          case hyia3 => (intro w hSw; (try dsimp only at hSw); go_simp; try with_reducible rfl)
          try simp only [Act.put, List.setIfInBounds_toArray, List.set_cons_zero, List.set_cons_succ]
          refine wpAnyZ_take (i := 4) (oi := ⟨some 65, _, _, _, _, _⟩) (v := ?via4) rfl (by kernel_rfl) (by decide) (by kernel_rfl) (by kernel_rfl) (by kernel_rfl) (fun _ _ _ h => h) (Or.inl ⟨by rfl, ?hyia4⟩) hHeld ?restia4
          case hyia4 => (intro w hSw; (try dsimp only at hSw); go_simp; try with_reducible rfl)
          try simp only [Act.put, List.setIfInBounds_toArray, List.set_cons_zero, List.set_cons_succ]
          refine wpAnyZ_take (i := 5) (oi := ⟨some 66, _, _, _, _, _⟩) (v := ?via5) rfl (by kernel_rfl) (by decide) (by kernel_rfl) (by kernel_rfl) (by kernel_rfl) (fun _ _ _ h => h) (Or.inl ⟨by rfl, ?hyia5⟩) hHeld ?restia5
          case hyia5 => (intro w hSw; (try dsimp only at hSw); go_simp; try with_reducible rfl)
          try simp only [Act.put, List.setIfInBounds_toArray, List.set_cons_zero, List.set_cons_succ]
          refine wpAnyZ_take (i := 6) (oi := ⟨some 67, _, _, _, _, _⟩) (v := ?via6) rfl (by kernel_rfl) (by decide) (by kernel_rfl) (by kernel_rfl) (by kernel_rfl) (fun _ _ _ h => h) (Or.inl ⟨by rfl, ?hyia6⟩) hHeld ?restia6
          case hyia6 => (intro w hSw; (try dsimp only at hSw); go_simp; try with_reducible rfl)
          try simp only [Act.put, List.setIfInBounds_toArray, List.set_cons_zero, List.set_cons_succ]
          refine wpAnyZ_take (i := 7) (oi := ⟨some 68, _, _, _, _, _⟩) (v := ?via7) rfl (by kernel_rfl) (by decide) (by kernel_rfl) (by kernel_rfl) (by kernel_rfl) (fun _ _ _ h => h) (Or.inl ⟨by rfl, ?hyia7⟩) hHeld ?restia7
          case hyia7 => (intro w hSw; (try dsimp only at hSw); go_simp; try with_reducible rfl)
          try simp only [Act.put, List.setIfInBounds_toArray, List.set_cons_zero, List.set_cons_succ]
          refine wpAnyZ_take (i := 8) (oi := ⟨some 69, _, _, _, _, _⟩) (v := ?via8) rfl (by kernel_rfl) (by decide) (by kernel_rfl) (by kernel_rfl) (by kernel_rfl) (fun _ _ _ h => h) (Or.inl ⟨by rfl, ?hyia8⟩) hHeld ?restia8
          case hyia8 => (intro w hSw; (try dsimp only at hSw); go_simp; try with_reducible rfl)
          try simp only [Act.put, List.setIfInBounds_toArray, List.set_cons_zero, List.set_cons_succ]
          refine wpAnyZ_take (i := 9) (oi := ⟨some 70, _, _, _, _, _⟩) (v := ?via9) rfl (by kernel_rfl) (by decide) (by kernel_rfl) (by kernel_rfl) (by kernel_rfl) (fun _ _ _ h => h) (Or.inl ⟨by rfl, ?hyia9⟩) hHeld ?restia9
          case hyia9 => (intro w hSw; (try dsimp only at hSw); go_simp; try with_reducible rfl)
          try simp only [Act.put, List.setIfInBounds_toArray, List.set_cons_zero, List.set_cons_succ]
          refine wpAnyZ_take (i := 10) (oi := ⟨some 71, _, _, _, _, _⟩) (v := ?via10) rfl (by kernel_rfl) (by decide) (by kernel_rfl) (by kernel_rfl) (by kernel_rfl) (fun _ _ _ h => h) (Or.inl ⟨by rfl, ?hyia10⟩) hHeld ?restia10
          case hyia10 => (intro w hSw; (try dsimp only at hSw); go_simp; try with_reducible rfl)
          try simp only [Act.put, List.setIfInBounds_toArray, List.set_cons_zero, List.set_cons_succ]
          refine wpAnyZ_take (i := 11) (oi := ⟨some 72, _, _, _, _, _⟩) (v := ?via11) rfl (by kernel_rfl) (by decide) (by kernel_rfl) (by kernel_rfl) (by kernel_rfl) (fun _ _ _ h => h) (Or.inl ⟨by rfl, ?hyia11⟩) hHeld ?restia11
          case hyia11 => (intro w hSw; (try dsimp only at hSw); go_simp; try with_reducible rfl)
          try simp only [Act.put, List.setIfInBounds_toArray, List.set_cons_zero, List.set_cons_succ]
          refine wpAnyZ_take (i := 12) (oi := ⟨some 73, _, _, _, _, _⟩) (v := ?via12) rfl (by kernel_rfl) (by decide) (by kernel_rfl) (by kernel_rfl) (by kernel_rfl) (fun _ _ _ h => h) (Or.inl ⟨by rfl, ?hyia12⟩) hHeld ?restia12
          case hyia12 => (intro w hSw; (try dsimp only at hSw); go_simp; try with_reducible rfl)
          try simp only [Act.put, List.setIfInBounds_toArray, List.set_cons_zero, List.set_cons_succ]
          refine wpAnyZ_take (i := 13) (oi := ⟨some 74, _, _, _, _, _⟩) (v := ?via13) rfl (by kernel_rfl) (by decide) (by kernel_rfl) (by kernel_rfl) (by kernel_rfl) (fun _ _ _ h => h) (Or.inl ⟨by rfl, ?hyia13⟩) hHeld ?restia13
          case hyia13 => (intro w hSw; (try dsimp only at hSw); go_simp; try with_reducible rfl)
          try simp only [Act.put, List.setIfInBounds_toArray, List.set_cons_zero, List.set_cons_succ]
          refine wpAnyZ_take (i := 14) (oi := ⟨some 75, _, _, _, _, _⟩) (v := ?via14) rfl (by kernel_rfl) (by decide) (by kernel_rfl) (by kernel_rfl) (by kernel_rfl) (fun _ _ _ h => h) (Or.inl ⟨by rfl, ?hyia14⟩) hHeld ?restia14
          case hyia14 => (intro w hSw; (try dsimp only at hSw); go_simp; try with_reducible rfl)
          try simp only [Act.put, List.setIfInBounds_toArray, List.set_cons_zero, List.set_cons_succ]
          have hbA := ((Below.refl w3.heap.size w3).alloc (Nat.le_refl _) (.cells #[S x, S y] 163)).drew
          have hHeldA := keepC ⟨ha3, hb3', hpc⟩ hbA
          have HI4 := Lib.hid (HI3.out.next hbA)
          have hNEW : ∀ q u, [S x, S y][q]? = some u → (w3.alloc (.cells #[S x, S y] 163)).drew.cell? ((⟨w3.heap.size, 0, none⟩ : Addr).add q) = some u := cells_new_at w3 [S x, S y] 163
          refine wpAnyZ_all (rs := [15]) (by kernel_rfl) (by simp) ?_
          intro i hi
          rw [List.mem_singleton] at hi
          subst hi
          refine wpOp_step (o := ⟨some 76, _, _, _, _, _⟩) rfl (fun K hK => ?_)
          rw [if_pos (by rfl)]
          go_simp
          refine hK _ _ ⟨fun _ => hHeldA, ?_⟩
          clear hK K
          try simp only [Act.put, List.setIfInBounds_toArray, List.set_cons_zero, List.set_cons_succ]
          generalize (w3.alloc (.cells #[S x, S y] 163)).drew = W2 at hbA hHeldA HI4 hNEW ⊢
          obtain ⟨D, c4, W4, hr16, ho4, hgr, hD, hDlt⟩ := run_append_lies (P := Tryd.prog) W2 151 151 w1.heap.size 163 i0 _ 2 32 rowsUnder hq hz0' hz1 hz2 rfl (by decide) v (j / 2) _ HI4.out.own ⟨w3.heap.size, 0, none⟩ 1 1 [S x, S y] rfl hNEW (by simp [Value.oneCell']) (by decide) (by unfold maxLen; omega) (by omega) HI4.out.below.size W2.heap.size rfl
          have hO4 : Only (fun b => v.ownBlock = some b) W2 W4 := (Only.refl _ W2).grown hgr (fun k hk => .inl hk)
          have hlts : w1.heap.size < W2.heap.size := HI4.out.row.lt
          have hgl : g < W2.heap.size := World.block_lt_of_cell? W2 ⟨g, o + j, none⟩ hHeldA.1
          have hvg : v.ownBlock ≠ some g := fun hv => by
            have h1 := own_base HI4.out.own hv
            have h2 := HGL.out
            omega
          have hHeld4 : W4.cell? ⟨g, o + j, none⟩ = some (S x) ∧ W4.cell? ⟨g, o + (j + 1), none⟩ = some (S y) ∧ W4.cell? ⟨w1.heap.size, 0, none⟩ = some v :=
            ⟨(hO4.cell (p := ⟨g, o + j, none⟩) hgl hvg).trans hHeldA.1, (hO4.cell (p := ⟨g, o + (j + 1), none⟩) hgl hvg).trans hHeldA.2.1, (hO4.cell (p := ⟨w1.heap.size, 0, none⟩) hlts HI4.out.ne).trans hHeldA.2.2⟩
          have hrow4 := HI4.out.row.only hO4 HI4.out.ne
          have hfz := hrow4.free 0
          have hpc4 := hHeld4.2.2
          have HO4 := Lib.hid ho4; have HD := Lib.hid hD
          clear ho4 hD hNEW hgr
          refine wpAnyZ_all (rs := [16]) (by kernel_rfl) (by simp) ?_
          intro i hi
          rw [List.mem_singleton] at hi
          subst hi
          refine wpOp_step (o := ⟨some 77, _, _, _, _, _⟩) rfl (fun K hK => ?_)
          rw [if_pos (by rfl)]
          refine wp_app (.tmp 65) (.tmp 76) 151 rfl rfl rfl hr16 ?_
          refine hK _ _ ⟨fun _ => hHeld4, ?_⟩
          clear hK K
          try simp only [Act.put, List.setIfInBounds_toArray, List.set_cons_zero, List.set_cons_succ]
          refine wpAnyZ_all (rs := [17]) (by kernel_rfl) (by simp) ?_
          intro i hi
          rw [List.mem_singleton] at hi
          subst hi
          refine wpOp_step (o := ⟨some 78, _, _, _, _, _⟩) rfl (fun K hK => ?_)
          rw [if_pos (by rfl)]
          go_simp
          refine hK _ _ ⟨fun _ => hHeld4, ?_⟩
          clear hK K
          try simp only [Act.put, List.setIfInBounds_toArray, List.set_cons_zero, List.set_cons_succ]
          refine wpAnyZ_all (rs := [18]) (by kernel_rfl) (by simp) ?_
          intro i hi
          rw [List.mem_singleton] at hi
          subst hi
          refine wpOp_step (o := ⟨some 79, _, _, _, _, _⟩) rfl (fun K hK => ?_)
          rw [if_pos (by rfl)]
          go_simp
          refine hK _ _ ⟨fun _ => hHeld4, ?_⟩
          clear hK K
          try simp only [Act.put, List.setIfInBounds_toArray, List.set_cons_zero, List.set_cons_succ]
          refine wpAnyZ_all (rs := [19]) (by kernel_rfl) (by simp) ?_
          intro i hi
          rw [List.mem_singleton] at hi
          subst hi
          refine wpOp_step (o := ⟨none, _, _, _, _, _⟩) rfl (fun K hK => ?_)
          rw [if_pos (by rfl)]
          go_simp
          refine hK _ _ ⟨fun h => absurd rfl h, ?_⟩
          clear hK K
          try simp only [Act.put, List.setIfInBounds_toArray, List.set_cons_zero, List.set_cons_succ]
          refine wpAnyZ_done (by kernel_rfl) ?_ _
          refine NoPanic.normal ?_
          have hDp : (Value.slice (some ⟨D, 0, none⟩) (j / 2 + 1) c4).ownBlock ≠ some w1.heap.size := by
            simp only [Value.ownBlock, ne_eq, Option.some.injEq]
            rcases HD.out with h | h
            · intro e; rw [e] at h; exact HI4.out.ne h
            · omega
          have hinv5 : LoadInv w1 (W4.setCell ⟨w1.heap.size, 0, none⟩ (.slice (some ⟨D, 0, none⟩) (j / 2 + 1) c4)) w1.heap.size l (j + 2) (.slice (some ⟨D, 0, none⟩) (j / 2 + 1) c4) := by
            have hev := HEV.out
            refine ⟨by omega, by omega, fun q hq1 hq2 => ?_, hrow4.setCell 0 _, ?_, hDp, ?_⟩
            · rcases Nat.lt_or_ge q j with h | h
              · exact HI4.out.good q hq1 h
              · obtain rfl : q = j := by omega
                exact HG0.out
            · rw [show (j + 2) / 2 = j / 2 + 1 by omega, take_two l j x y hlt hj1 HX.out HY.out, List.map_append]
              exact ownsRow_setCell_other HO4.out hDp _
            · have h1 := (Only.of_below HI4.out.below).trans (hO4.mono (T := fun k => w1.heap.size ≤ k) (fun k _ hk => own_base HI4.out.own hk))
              exact (h1.setCell (p := ⟨w1.heap.size, 0, none⟩) (.inl (Nat.le_refl _)) _).below (Nat.le_refl _) (fun k hk => hk)
          have HI5 := Lib.hid hinv5
          have hw5 : IntKind.i64.wrap ((j : Int) + 2) = (j : Int) + 2 := IntWalk.i64_in _ (by omega)
          clear hHeld hHeldA hHeld4 hinv5 hr16 hw1 hw2 hw3 hw4 ha3 hb3' hpc hpc4 hfz hrow4 hDp hO4 hbA
          go_wp2_with fail
          go_roundw
          case rel => exact ⟨j + 2, _, by go_num, HI5.out⟩
          case measure => simp [intOf]; omega
        · obtain ⟨q, hq2⟩ : ∃ q, j = q + 2 := ⟨j - 2, by have := HEV.out; omega⟩
          have hql : q < l.length := by omega
          have hc := hcs q hql
          obtain ⟨z, hzz⟩ : ∃ z, z = l[q] := ⟨_, rfl⟩
          rw [← hzz] at hc
          have HZ : Hid (l.getD (j - 2) [] = z) := Lib.hid (by rw [hq2, hzz]; simp [List.getD, hql])
          have hwq : IntKind.i64.wrap ((j : Int) - 2) = (q : Int) := (IntWalk.i64_in _ (by omega)).trans (by omega)
          have hql2 : (q : Int) < (l.length : Int) := by omega
          have hzc : (decide ((j : Int) > 0)) = true := decide_eq_true (by omega)
          have hzd : (decide (0 < j)) = true := decide_eq_true (by omega)
          have hpos : (0 : Int) < (j : Int) := by omega
          have HQ2 := Lib.hid hq2
          clear hq2 hzz hj0
          have hS0 : wr.drew.cell? ⟨g, o + j, none⟩ = some (S x) ∧ wr.drew.cell? ⟨g, o + (j + 1), none⟩ = some (S y) ∧ wr.drew.cell? ⟨g, o + q, none⟩ = some (S z) ∧ Below wr.heap.size wr wr.drew := ⟨ha, hb, hc, (Below.refl _ wr).drew⟩
          clear hc
          cases hlt2 : blt z x with
          | true =>
            have HG0 : Hid (goodAt l j) := Lib.hid ⟨by rw [HX.out, HY.out, rowB_check, HCK.out]; rfl, fun _ => by rw [HZ.out, HX.out]; exact hlt2⟩
            go_wp2_with fail
            refine wp_region_noPanic ?_
            refine wp_region_held_drew (S := fun w' => w'.cell? ⟨g, o + j, none⟩ = some (S x) ∧ w'.cell? ⟨g, o + (j + 1), none⟩ = some (S y) ∧ w'.cell? ⟨g, o + q, none⟩ = some (S z) ∧ Below wr.heap.size wr w') (by kernel_rfl) hS0 (fun hHeld => ?_)
            refine wpAnyH_take (i := 0) (oi := ⟨some 33, _, _, _, _, _⟩) (v := ?vme0) rfl (by kernel_rfl) (by kernel_rfl) (by kernel_rfl) (fun _ _ _ h => h) (Or.inl ⟨by rfl, ?hyme0⟩) hHeld ?restme0
            case hyme0 => (intro w hSw; (try dsimp only at hSw); go_simp; try with_reducible rfl)
            try simp only [Act.put, List.setIfInBounds_toArray, List.set_cons_zero, List.set_cons_succ]
            refine wpAnyH_take (i := 1) (oi := ⟨some 34, _, _, _, _, _⟩) (v := ?vme1) rfl (by kernel_rfl) (by kernel_rfl) (by kernel_rfl) (fun _ _ _ h => h) (Or.inl ⟨by rfl, ?hyme1⟩) hHeld ?restme1
            case hyme1 => (intro w hSw; (try dsimp only at hSw); go_simp; try with_reducible rfl)
            try simp only [Act.put, List.setIfInBounds_toArray, List.set_cons_zero, List.set_cons_succ]
            refine wpAnyH_take (i := 2) (oi := ⟨some 35, _, _, _, _, _⟩) (v := ?vme2) rfl (by kernel_rfl) (by kernel_rfl) (by kernel_rfl) (fun _ _ _ h => h) (Or.inl ⟨by rfl, ?hyme2⟩) hHeld ?restme2
            case hyme2 => (intro w hSw; (try dsimp only at hSw); go_simp; try with_reducible rfl)
            try simp only [Act.put, List.setIfInBounds_toArray, List.set_cons_zero, List.set_cons_succ]
            refine wpAnyH_take (i := 3) (oi := ⟨some 36, _, _, _, _, _⟩) (v := ?vme3) rfl (by kernel_rfl) (by kernel_rfl) (by kernel_rfl) (fun _ _ _ h => h) (Or.inl ⟨by rfl, ?hyme3⟩) hHeld ?restme3
            case hyme3 => (intro w hSw; (try dsimp only at hSw); go_simp; try with_reducible rfl)
            try simp only [Act.put, List.setIfInBounds_toArray, List.set_cons_zero, List.set_cons_succ]
            refine wpAnyH_take (i := 4) (oi := ⟨some 37, _, _, _, _, _⟩) (v := ?vme4) rfl (by kernel_rfl) (by kernel_rfl) (by kernel_rfl) (fun _ _ _ h => h) (Or.inl ⟨by rfl, ?hyme4⟩) hHeld ?restme4
            case hyme4 => (intro w hSw; (try dsimp only at hSw); go_simp; try with_reducible rfl)
            try simp only [Act.put, List.setIfInBounds_toArray, List.set_cons_zero, List.set_cons_succ]
            refine wpAnyH_take (i := 5) (oi := ⟨some 38, _, _, _, _, _⟩) (v := ?vme5) rfl (by kernel_rfl) (by kernel_rfl) (by kernel_rfl) (fun _ _ _ h => h) (Or.inl ⟨by rfl, ?hyme5⟩) hHeld ?restme5
            case hyme5 => (intro w hSw; (try dsimp only at hSw); go_simp; try with_reducible rfl)
            try simp only [Act.put, List.setIfInBounds_toArray, List.set_cons_zero, List.set_cons_succ]
            refine wpAnyH_take (i := 6) (oi := ⟨some 39, _, _, _, _, _⟩) (v := ?vme6) rfl (by kernel_rfl) (by kernel_rfl) (by kernel_rfl) (fun _ _ _ h => h) (Or.inl ⟨by rfl, ?hyme6⟩) hHeld ?restme6
            case hyme6 => (intro w hSw; (try dsimp only at hSw); go_simp; try with_reducible rfl)
            try simp only [Act.put, List.setIfInBounds_toArray, List.set_cons_zero, List.set_cons_succ]
            refine wpAnyH_take (i := 7) (oi := ⟨some 40, _, _, _, _, _⟩) (v := ?vme7) rfl (by kernel_rfl) (by kernel_rfl) (by kernel_rfl) (fun _ _ _ h => h) (Or.inl ⟨by rfl, ?hyme7⟩) hHeld ?restme7
            case hyme7 => (intro w hSw; (try dsimp only at hSw); go_simp; try with_reducible rfl)
            try simp only [Act.put, List.setIfInBounds_toArray, List.set_cons_zero, List.set_cons_succ]
            refine wpAnyH_take (i := 8) (oi := ⟨some 41, _, _, _, _, _⟩) (v := ?vme8) rfl (by kernel_rfl) (by kernel_rfl) (by kernel_rfl) (fun _ _ _ h => h) (Or.inl ⟨by rfl, ?hyme8⟩) hHeld ?restme8
            case hyme8 => (intro w hSw; (try dsimp only at hSw); go_simp; try with_reducible rfl)
            try simp only [Act.put, List.setIfInBounds_toArray, List.set_cons_zero, List.set_cons_succ]
            refine wpAnyH_take (i := 9) (oi := ⟨some 42, _, _, _, _, _⟩) (v := ?vme9) rfl (by kernel_rfl) (by kernel_rfl) (by kernel_rfl) (fun _ _ _ h => h) (Or.inl ⟨by rfl, ?hyme9⟩) hHeld ?restme9
            case hyme9 => (intro w hSw; (try dsimp only at hSw); go_simp; try with_reducible rfl)
            try simp only [Act.put, List.setIfInBounds_toArray, List.set_cons_zero, List.set_cons_succ]
            refine wpAnyH_all (rs := [10]) (by kernel_rfl) (by simp) ?_
            intro i hi
            rw [List.mem_singleton] at hi
            subst hi
            refine wpOp_step (o := ⟨some 43, _, _, _, _, _⟩) rfl (fun K hK => ?_)
            rw [if_pos (by rfl)]
            go_simp
            (go_at_call 78; refine (HCE.out _).mono ?_; rintro e3 w3 ⟨rfl, hb3⟩; have hHeld3 := keep4 hHeld hb3; dsimp only)
            refine hK _ _ ⟨hHeld3, ?_⟩
            clear hK K
            try simp only [Act.put, List.setIfInBounds_toArray, List.set_cons_zero, List.set_cons_succ]
            refine wpAnyH_take (i := 11) (oi := ⟨some 44, _, _, _, _, _⟩) (v := ?vmf11) rfl (by kernel_rfl) (by kernel_rfl) (by kernel_rfl) (fun _ _ _ h => h) (Or.inl ⟨by rfl, ?hymf11⟩) hHeld3 ?restmf11
            case hymf11 => (intro w hSw; (try dsimp only at hSw); go_simp; try with_reducible rfl)
            try simp only [Act.put, List.setIfInBounds_toArray, List.set_cons_zero, List.set_cons_succ]
            refine wpAnyH_take (i := 12) (oi := ⟨some 45, _, _, _, _, _⟩) (v := ?vmf12) rfl (by kernel_rfl) (by kernel_rfl) (by kernel_rfl) (fun _ _ _ h => h) (Or.inl ⟨by rfl, ?hymf12⟩) hHeld3 ?restmf12
            case hymf12 => (intro w hSw; (try dsimp only at hSw); go_simp; try with_reducible rfl)
            try simp only [Act.put, List.setIfInBounds_toArray, List.set_cons_zero, List.set_cons_succ]
            refine wpAnyH_take (i := 13) (oi := ⟨some 46, _, _, _, _, _⟩) (v := ?vmf13) rfl (by kernel_rfl) (by kernel_rfl) (by kernel_rfl) (fun _ _ _ h => h) (Or.inl ⟨by rfl, ?hymf13⟩) hHeld3 ?restmf13
            case hymf13 => (intro w hSw; (try dsimp only at hSw); go_simp; try with_reducible rfl)
            try simp only [Act.put, List.setIfInBounds_toArray, List.set_cons_zero, List.set_cons_succ]
            refine wpAnyH_take (i := 14) (oi := ⟨some 47, _, _, _, _, _⟩) (v := ?vmf14) rfl (by kernel_rfl) (by kernel_rfl) (by kernel_rfl) (fun _ _ _ h => h) (Or.inl ⟨by rfl, ?hymf14⟩) hHeld3 ?restmf14
            case hymf14 => (intro w hSw; (try dsimp only at hSw); go_simp; try with_reducible rfl)
            try simp only [Act.put, List.setIfInBounds_toArray, List.set_cons_zero, List.set_cons_succ]
            refine wpAnyH_take (i := 15) (oi := ⟨some 48, _, _, _, _, _⟩) (v := ?vmf15) rfl (by kernel_rfl) (by kernel_rfl) (by kernel_rfl) (fun _ _ _ h => h) (Or.inl ⟨by rfl, ?hymf15⟩) hHeld3 ?restmf15
            case hymf15 => (intro w hSw; (try dsimp only at hSw); go_simp; try with_reducible rfl)
            try simp only [Act.put, List.setIfInBounds_toArray, List.set_cons_zero, List.set_cons_succ]
            refine wpAnyH_take (i := 16) (oi := ⟨some 49, _, _, _, _, _⟩) (v := ?vmf16) rfl (by kernel_rfl) (by kernel_rfl) (by kernel_rfl) (fun _ _ _ h => h) (Or.inl ⟨by rfl, ?hymf16⟩) hHeld3 ?restmf16
            case hymf16 => (intro w hSw; (try dsimp only at hSw); go_simp; try with_reducible rfl)
            try simp only [Act.put, List.setIfInBounds_toArray, List.set_cons_zero, List.set_cons_succ]
            refine wpAnyH_take (i := 17) (oi := ⟨some 50, _, _, _, _, _⟩) (v := ?vmf17) rfl (by kernel_rfl) (by kernel_rfl) (by kernel_rfl) (fun _ _ _ h => h) (Or.inl ⟨by rfl, ?hymf17⟩) hHeld3 ?restmf17
            case hymf17 => (intro w hSw; (try dsimp only at hSw); go_simp; try with_reducible rfl)
            try simp only [Act.put, List.setIfInBounds_toArray, List.set_cons_zero, List.set_cons_succ]
            refine wpAnyH_take (i := 18) (oi := ⟨some 51, _, _, _, _, _⟩) (v := ?vmf18) rfl (by kernel_rfl) (by kernel_rfl) (by kernel_rfl) (fun _ _ _ h => h) (Or.inl ⟨by rfl, ?hymf18⟩) hHeld3 ?restmf18
            case hymf18 => (intro w hSw; (try dsimp only at hSw); go_simp; try with_reducible rfl)
            try simp only [Act.put, List.setIfInBounds_toArray, List.set_cons_zero, List.set_cons_succ]
            refine wpAnyH_take (i := 19) (oi := ⟨some 52, _, _, _, _, _⟩) (v := ?vmf19) rfl (by kernel_rfl) (by kernel_rfl) (by kernel_rfl) (fun _ _ _ h => h) (Or.inl ⟨by rfl, ?hymf19⟩) hHeld3 ?restmf19
            case hymf19 => (intro w hSw; (try dsimp only at hSw); go_simp; try with_reducible rfl)
            try simp only [Act.put, List.setIfInBounds_toArray, List.set_cons_zero, List.set_cons_succ]
            refine wpAnyH_take (i := 20) (oi := ⟨some 53, _, _, _, _, _⟩) (v := ?vmf20) rfl (by kernel_rfl) (by kernel_rfl) (by kernel_rfl) (fun _ _ _ h => h) (Or.inl ⟨by rfl, ?hymf20⟩) hHeld3 ?restmf20
            case hymf20 => (intro w hSw; (try dsimp only at hSw); go_simp; try with_reducible rfl)
            try simp only [Act.put, List.setIfInBounds_toArray, List.set_cons_zero, List.set_cons_succ]
            refine wpAnyH_take (i := 21) (oi := ⟨some 54, _, _, _, _, _⟩) (v := ?vmf21) rfl (by kernel_rfl) (by kernel_rfl) (by kernel_rfl) (fun _ _ _ h => h) (Or.inl ⟨by rfl, ?hymf21⟩) hHeld3 ?restmf21
            case hymf21 => (intro w hSw; (try dsimp only at hSw); go_simp; try with_reducible rfl)
            try simp only [Act.put, List.setIfInBounds_toArray, List.set_cons_zero, List.set_cons_succ]
            refine wpAnyH_take (i := 22) (oi := ⟨some 55, _, _, _, _, _⟩) (v := ?vmf22) rfl (by kernel_rfl) (by kernel_rfl) (by kernel_rfl) (fun _ _ _ h => h) (Or.inl ⟨by rfl, ?hymf22⟩) hHeld3 ?restmf22
            case hymf22 => (intro w hSw; (try dsimp only at hSw); go_simp; try with_reducible rfl)
            try simp only [Act.put, List.setIfInBounds_toArray, List.set_cons_zero, List.set_cons_succ]
            refine wpAnyH_take (i := 23) (oi := ⟨some 56, _, _, _, _, _⟩) (v := ?vmf23) rfl (by kernel_rfl) (by kernel_rfl) (by kernel_rfl) (fun _ _ _ h => h) (Or.inl ⟨by rfl, ?hymf23⟩) hHeld3 ?restmf23
            case hymf23 => (intro w hSw; (try dsimp only at hSw); go_simp; try with_reducible rfl)
            try simp only [Act.put, List.setIfInBounds_toArray, List.set_cons_zero, List.set_cons_succ]
            refine wpAnyH_take (i := 24) (oi := ⟨some 57, _, _, _, _, _⟩) (v := ?vmf24) rfl (by kernel_rfl) (by kernel_rfl) (by kernel_rfl) (fun _ _ _ h => h) (Or.inl ⟨by rfl, ?hymf24⟩) hHeld3 ?restmf24
            case hymf24 => (intro w hSw; (try dsimp only at hSw); go_simp; try with_reducible rfl)
            try simp only [Act.put, List.setIfInBounds_toArray, List.set_cons_zero, List.set_cons_succ]
            refine wpAnyH_take (i := 25) (oi := ⟨some 58, _, _, _, _, _⟩) (v := ?vmf25) rfl (by kernel_rfl) (by kernel_rfl) (by kernel_rfl) (fun _ _ _ h => h) (Or.inl ⟨by rfl, ?hymf25⟩) hHeld3 ?restmf25
            case hymf25 => (intro w hSw; (try dsimp only at hSw); go_simp; try with_reducible rfl)
            try simp only [Act.put, List.setIfInBounds_toArray, List.set_cons_zero, List.set_cons_succ]
            refine wpAnyH_take (i := 26) (oi := ⟨some 59, _, _, _, _, _⟩) (v := ?vmf26) rfl (by kernel_rfl) (by kernel_rfl) (by kernel_rfl) (fun _ _ _ h => h) (Or.inl ⟨by rfl, ?hymf26⟩) hHeld3 ?restmf26
            case hymf26 => (intro w hSw; (try dsimp only at hSw); go_simp; try with_reducible rfl)
            try simp only [Act.put, List.setIfInBounds_toArray, List.set_cons_zero, List.set_cons_succ]
            refine wpAnyH_take (i := 27) (oi := ⟨some 60, _, _, _, _, _⟩) (v := ?vmf27) rfl (by kernel_rfl) (by kernel_rfl) (by kernel_rfl) (fun _ _ _ h => h) (Or.inl ⟨by rfl, ?hymf27⟩) hHeld3 ?restmf27
            case hymf27 => (intro w hSw; (try dsimp only at hSw); go_simp; try with_reducible rfl)
            try simp only [Act.put, List.setIfInBounds_toArray, List.set_cons_zero, List.set_cons_succ]
            refine wpAnyH_done (by kernel_rfl) ?_ _
            refine NoPanic.normal ?_
            have HI3 := Lib.hid (HI.out.next hHeld3.2.2.2)
            have ha3 := hHeld3.1
            have hb3' := hHeld3.2.1
            clear hHeld hHeld3 hS0 ha hb hb3
            go_wp2_with fail
            have hpc : w3.cell? ⟨w1.heap.size, 0, none⟩ = some v := HI3.out.row.cell 0
            refine wp_region_noPanic ?_
            refine wp_region_z (S := fun w' => w'.cell? ⟨g, o + j, none⟩ = some (S x) ∧ w'.cell? ⟨g, o + (j + 1), none⟩ = some (S y) ∧ w'.cell? ⟨w1.heap.size, 0, none⟩ = some v) 19 (by kernel_rfl) ⟨ha3, hb3', hpc⟩ (fun hHeld => ?_)
            refine wpAnyZ_take (i := 0) (oi := ⟨some 61, _, _, _, _, _⟩) (v := ?vna0) rfl (by kernel_rfl) (by decide) (by kernel_rfl) (by kernel_rfl) (by kernel_rfl) (fun _ _ _ h => h) (Or.inl ⟨by rfl, ?hyna0⟩) hHeld ?restna0
            case hyna0 => (intro w hSw; (try dsimp only at hSw); go_simp; try with_reducible rfl)
            try simp only [Act.put, List.setIfInBounds_toArray, List.set_cons_zero, List.set_cons_succ]
            refine wpAnyZ_take (i := 1) (oi := ⟨some 62, _, _, _, _, _⟩) (v := ?vna1) rfl (by kernel_rfl) (by decide) (by kernel_rfl) (by kernel_rfl) (by kernel_rfl) (fun _ _ _ h => h) (Or.inl ⟨by rfl, ?hyna1⟩) hHeld ?restna1
            case hyna1 => (intro w hSw; (try dsimp only at hSw); go_simp; try with_reducible rfl)
            try simp only [Act.put, List.setIfInBounds_toArray, List.set_cons_zero, List.set_cons_succ]
            refine wpAnyZ_take (i := 2) (oi := ⟨some 63, _, _, _, _, _⟩) (v := ?vna2) rfl (by kernel_rfl) (by decide) (by kernel_rfl) (by kernel_rfl) (by kernel_rfl) (fun _ _ _ h => h) (Or.inl ⟨by rfl, ?hyna2⟩) hHeld ?restna2
            case hyna2 => (intro w hSw; (try dsimp only at hSw); go_simp; try with_reducible rfl)
            try simp only [Act.put, List.setIfInBounds_toArray, List.set_cons_zero, List.set_cons_succ]
            refine wpAnyZ_take (i := 3) (oi := ⟨some 64, _, _, _, _, _⟩) (v := ?vna3) rfl (by kernel_rfl) (by decide) (by kernel_rfl) (by kernel_rfl) (by kernel_rfl) (fun _ _ _ h => h) (Or.inl ⟨by rfl, ?hyna3⟩) hHeld ?restna3
            case hyna3 => (intro w hSw; (try dsimp only at hSw); go_simp; try with_reducible rfl)
            try simp only [Act.put, List.setIfInBounds_toArray, List.set_cons_zero, List.set_cons_succ]
            refine wpAnyZ_take (i := 4) (oi := ⟨some 65, _, _, _, _, _⟩) (v := ?vna4) rfl (by kernel_rfl) (by decide) (by kernel_rfl) (by kernel_rfl) (by kernel_rfl) (fun _ _ _ h => h) (Or.inl ⟨by rfl, ?hyna4⟩) hHeld ?restna4
            case hyna4 => (intro w hSw; (try dsimp only at hSw); go_simp; try with_reducible rfl)
            try simp only [Act.put, List.setIfInBounds_toArray, List.set_cons_zero, List.set_cons_succ]
            refine wpAnyZ_take (i := 5) (oi := ⟨some 66, _, _, _, _, _⟩) (v := ?vna5) rfl (by kernel_rfl) (by decide) (by kernel_rfl) (by kernel_rfl) (by kernel_rfl) (fun _ _ _ h => h) (Or.inl ⟨by rfl, ?hyna5⟩) hHeld ?restna5
            case hyna5 => (intro w hSw; (try dsimp only at hSw); go_simp; try with_reducible rfl)
            try simp only [Act.put, List.setIfInBounds_toArray, List.set_cons_zero, List.set_cons_succ]
            refine wpAnyZ_take (i := 6) (oi := ⟨some 67, _, _, _, _, _⟩) (v := ?vna6) rfl (by kernel_rfl) (by decide) (by kernel_rfl) (by kernel_rfl) (by kernel_rfl) (fun _ _ _ h => h) (Or.inl ⟨by rfl, ?hyna6⟩) hHeld ?restna6
            case hyna6 => (intro w hSw; (try dsimp only at hSw); go_simp; try with_reducible rfl)
            try simp only [Act.put, List.setIfInBounds_toArray, List.set_cons_zero, List.set_cons_succ]
            refine wpAnyZ_take (i := 7) (oi := ⟨some 68, _, _, _, _, _⟩) (v := ?vna7) rfl (by kernel_rfl) (by decide) (by kernel_rfl) (by kernel_rfl) (by kernel_rfl) (fun _ _ _ h => h) (Or.inl ⟨by rfl, ?hyna7⟩) hHeld ?restna7
            case hyna7 => (intro w hSw; (try dsimp only at hSw); go_simp; try with_reducible rfl)
            try simp only [Act.put, List.setIfInBounds_toArray, List.set_cons_zero, List.set_cons_succ]
            refine wpAnyZ_take (i := 8) (oi := ⟨some 69, _, _, _, _, _⟩) (v := ?vna8) rfl (by kernel_rfl) (by decide) (by kernel_rfl) (by kernel_rfl) (by kernel_rfl) (fun _ _ _ h => h) (Or.inl ⟨by rfl, ?hyna8⟩) hHeld ?restna8
            case hyna8 => (intro w hSw; (try dsimp only at hSw); go_simp; try with_reducible rfl)
            try simp only [Act.put, List.setIfInBounds_toArray, List.set_cons_zero, List.set_cons_succ]
            refine wpAnyZ_take (i := 9) (oi := ⟨some 70, _, _, _, _, _⟩) (v := ?vna9) rfl (by kernel_rfl) (by decide) (by kernel_rfl) (by kernel_rfl) (by kernel_rfl) (fun _ _ _ h => h) (Or.inl ⟨by rfl, ?hyna9⟩) hHeld ?restna9
            case hyna9 => (intro w hSw; (try dsimp only at hSw); go_simp; try with_reducible rfl)
            try simp only [Act.put, List.setIfInBounds_toArray, List.set_cons_zero, List.set_cons_succ]
            refine wpAnyZ_take (i := 10) (oi := ⟨some 71, _, _, _, _, _⟩) (v := ?vna10) rfl (by kernel_rfl) (by decide) (by kernel_rfl) (by kernel_rfl) (by kernel_rfl) (fun _ _ _ h => h) (Or.inl ⟨by rfl, ?hyna10⟩) hHeld ?restna10
            case hyna10 => (intro w hSw; (try dsimp only at hSw); go_simp; try with_reducible rfl)
            try simp only [Act.put, List.setIfInBounds_toArray, List.set_cons_zero, List.set_cons_succ]
            refine wpAnyZ_take (i := 11) (oi := ⟨some 72, _, _, _, _, _⟩) (v := ?vna11) rfl (by kernel_rfl) (by decide) (by kernel_rfl) (by kernel_rfl) (by kernel_rfl) (fun _ _ _ h => h) (Or.inl ⟨by rfl, ?hyna11⟩) hHeld ?restna11
            case hyna11 => (intro w hSw; (try dsimp only at hSw); go_simp; try with_reducible rfl)
            try simp only [Act.put, List.setIfInBounds_toArray, List.set_cons_zero, List.set_cons_succ]
            refine wpAnyZ_take (i := 12) (oi := ⟨some 73, _, _, _, _, _⟩) (v := ?vna12) rfl (by kernel_rfl) (by decide) (by kernel_rfl) (by kernel_rfl) (by kernel_rfl) (fun _ _ _ h => h) (Or.inl ⟨by rfl, ?hyna12⟩) hHeld ?restna12
            case hyna12 => (intro w hSw; (try dsimp only at hSw); go_simp; try with_reducible rfl)
            try simp only [Act.put, List.setIfInBounds_toArray, List.set_cons_zero, List.set_cons_succ]
            refine wpAnyZ_take (i := 13) (oi := ⟨some 74, _, _, _, _, _⟩) (v := ?vna13) rfl (by kernel_rfl) (by decide) (by kernel_rfl) (by kernel_rfl) (by kernel_rfl) (fun _ _ _ h => h) (Or.inl ⟨by rfl, ?hyna13⟩) hHeld ?restna13
            case hyna13 => (intro w hSw; (try dsimp only at hSw); go_simp; try with_reducible rfl)
            try simp only [Act.put, List.setIfInBounds_toArray, List.set_cons_zero, List.set_cons_succ]
            refine wpAnyZ_take (i := 14) (oi := ⟨some 75, _, _, _, _, _⟩) (v := ?vna14) rfl (by kernel_rfl) (by decide) (by kernel_rfl) (by kernel_rfl) (by kernel_rfl) (fun _ _ _ h => h) (Or.inl ⟨by rfl, ?hyna14⟩) hHeld ?restna14
            case hyna14 => (intro w hSw; (try dsimp only at hSw); go_simp; try with_reducible rfl)
            try simp only [Act.put, List.setIfInBounds_toArray, List.set_cons_zero, List.set_cons_succ]
            have hbA := ((Below.refl w3.heap.size w3).alloc (Nat.le_refl _) (.cells #[S x, S y] 163)).drew
            have hHeldA := keepC ⟨ha3, hb3', hpc⟩ hbA
            have HI4 := Lib.hid (HI3.out.next hbA)
            have hNEW : ∀ q u, [S x, S y][q]? = some u → (w3.alloc (.cells #[S x, S y] 163)).drew.cell? ((⟨w3.heap.size, 0, none⟩ : Addr).add q) = some u := cells_new_at w3 [S x, S y] 163
            refine wpAnyZ_all (rs := [15]) (by kernel_rfl) (by simp) ?_
            intro i hi
            rw [List.mem_singleton] at hi
            subst hi
            refine wpOp_step (o := ⟨some 76, _, _, _, _, _⟩) rfl (fun K hK => ?_)
            rw [if_pos (by rfl)]
            go_simp
            refine hK _ _ ⟨fun _ => hHeldA, ?_⟩
            clear hK K
            try simp only [Act.put, List.setIfInBounds_toArray, List.set_cons_zero, List.set_cons_succ]
            generalize (w3.alloc (.cells #[S x, S y] 163)).drew = W2 at hbA hHeldA HI4 hNEW ⊢
            obtain ⟨D, c4, W4, hr16, ho4, hgr, hD, hDlt⟩ := run_append_lies (P := Tryd.prog) W2 151 151 w1.heap.size 163 i0 _ 2 32 rowsUnder hq hz0' hz1 hz2 rfl (by decide) v (j / 2) _ HI4.out.own ⟨w3.heap.size, 0, none⟩ 1 1 [S x, S y] rfl hNEW (by simp [Value.oneCell']) (by decide) (by unfold maxLen; omega) (by omega) HI4.out.below.size W2.heap.size rfl
            have hO4 : Only (fun b => v.ownBlock = some b) W2 W4 := (Only.refl _ W2).grown hgr (fun k hk => .inl hk)
            have hlts : w1.heap.size < W2.heap.size := HI4.out.row.lt
            have hgl : g < W2.heap.size := World.block_lt_of_cell? W2 ⟨g, o + j, none⟩ hHeldA.1
            have hvg : v.ownBlock ≠ some g := fun hv => by
              have h1 := own_base HI4.out.own hv
              have h2 := HGL.out
              omega
            have hHeld4 : W4.cell? ⟨g, o + j, none⟩ = some (S x) ∧ W4.cell? ⟨g, o + (j + 1), none⟩ = some (S y) ∧ W4.cell? ⟨w1.heap.size, 0, none⟩ = some v :=
              ⟨(hO4.cell (p := ⟨g, o + j, none⟩) hgl hvg).trans hHeldA.1, (hO4.cell (p := ⟨g, o + (j + 1), none⟩) hgl hvg).trans hHeldA.2.1, (hO4.cell (p := ⟨w1.heap.size, 0, none⟩) hlts HI4.out.ne).trans hHeldA.2.2⟩
            have hrow4 := HI4.out.row.only hO4 HI4.out.ne
            have hfz := hrow4.free 0
            have hpc4 := hHeld4.2.2
            have HO4 := Lib.hid ho4; have HD := Lib.hid hD
            clear ho4 hD hNEW hgr
            refine wpAnyZ_all (rs := [16]) (by kernel_rfl) (by simp) ?_
            intro i hi
            rw [List.mem_singleton] at hi
            subst hi
            refine wpOp_step (o := ⟨some 77, _, _, _, _, _⟩) rfl (fun K hK => ?_)
            rw [if_pos (by rfl)]
            refine wp_app (.tmp 65) (.tmp 76) 151 rfl rfl rfl hr16 ?_
            refine hK _ _ ⟨fun _ => hHeld4, ?_⟩
            clear hK K
            try simp only [Act.put, List.setIfInBounds_toArray, List.set_cons_zero, List.set_cons_succ]
            refine wpAnyZ_all (rs := [17]) (by kernel_rfl) (by simp) ?_
            intro i hi
            rw [List.mem_singleton] at hi
            subst hi
            refine wpOp_step (o := ⟨some 78, _, _, _, _, _⟩) rfl (fun K hK => ?_)
            rw [if_pos (by rfl)]
            go_simp
            refine hK _ _ ⟨fun _ => hHeld4, ?_⟩
            clear hK K
            try simp only [Act.put, List.setIfInBounds_toArray, List.set_cons_zero, List.set_cons_succ]
            refine wpAnyZ_all (rs := [18]) (by kernel_rfl) (by simp) ?_
            intro i hi
            rw [List.mem_singleton] at hi
            subst hi
            refine wpOp_step (o := ⟨some 79, _, _, _, _, _⟩) rfl (fun K hK => ?_)
            rw [if_pos (by rfl)]
            go_simp
            refine hK _ _ ⟨fun _ => hHeld4, ?_⟩
            clear hK K
            try simp only [Act.put, List.setIfInBounds_toArray, List.set_cons_zero, List.set_cons_succ]
            refine wpAnyZ_all (rs := [19]) (by kernel_rfl) (by simp) ?_
            intro i hi
            rw [List.mem_singleton] at hi
            subst hi
            refine wpOp_step (o := ⟨none, _, _, _, _, _⟩) rfl (fun K hK => ?_)
            rw [if_pos (by rfl)]
            go_simp
            refine hK _ _ ⟨fun h => absurd rfl h, ?_⟩
            clear hK K
            try simp only [Act.put, List.setIfInBounds_toArray, List.set_cons_zero, List.set_cons_succ]
            refine wpAnyZ_done (by kernel_rfl) ?_ _
            refine NoPanic.normal ?_
            have hDp : (Value.slice (some ⟨D, 0, none⟩) (j / 2 + 1) c4).ownBlock ≠ some w1.heap.size := by
              simp only [Value.ownBlock, ne_eq, Option.some.injEq]
              rcases HD.out with h | h
              · intro e; rw [e] at h; exact HI4.out.ne h
              · omega
            have hinv5 : LoadInv w1 (W4.setCell ⟨w1.heap.size, 0, none⟩ (.slice (some ⟨D, 0, none⟩) (j / 2 + 1) c4)) w1.heap.size l (j + 2) (.slice (some ⟨D, 0, none⟩) (j / 2 + 1) c4) := by
              have hev := HEV.out
              refine ⟨by omega, by omega, fun q hq1 hq2 => ?_, hrow4.setCell 0 _, ?_, hDp, ?_⟩
              · rcases Nat.lt_or_ge q j with h | h
                · exact HI4.out.good q hq1 h
                · obtain rfl : q = j := by omega
                  exact HG0.out
              · rw [show (j + 2) / 2 = j / 2 + 1 by omega, take_two l j x y hlt hj1 HX.out HY.out, List.map_append]
                exact ownsRow_setCell_other HO4.out hDp _
              · have h1 := (Only.of_below HI4.out.below).trans (hO4.mono (T := fun k => w1.heap.size ≤ k) (fun k _ hk => own_base HI4.out.own hk))
                exact (h1.setCell (p := ⟨w1.heap.size, 0, none⟩) (.inl (Nat.le_refl _)) _).below (Nat.le_refl _) (fun k hk => hk)
            have HI5 := Lib.hid hinv5
            have hw5 : IntKind.i64.wrap ((j : Int) + 2) = (j : Int) + 2 := IntWalk.i64_in _ (by omega)
            clear hwq hHeld hHeldA hHeld4 hinv5 hr16 hw1 hw2 hw3 hw4 ha3 hb3' hpc hpc4 hfz hrow4 hDp hO4 hbA
            go_wp2_with fail
            go_roundw
            case rel => exact ⟨j + 2, _, by go_num, HI5.out⟩
            case measure => simp [intOf]; omega
          | false =>
            have HBAD : Hid (¬ goodAt l j) := Lib.hid (fun h => by
              have := h.2 (by omega)
              rw [HZ.out, HX.out] at this; rw [hlt2] at this; cases this)
            go_wp2_with fail
            refine wp_region_noPanic ?_
            refine wp_region_held_drew (S := fun w' => w'.cell? ⟨g, o + j, none⟩ = some (S x) ∧ w'.cell? ⟨g, o + (j + 1), none⟩ = some (S y) ∧ w'.cell? ⟨g, o + q, none⟩ = some (S z) ∧ Below wr.heap.size wr w') (by kernel_rfl) hS0 (fun hHeld => ?_)
            refine wpAnyH_take (i := 0) (oi := ⟨some 33, _, _, _, _, _⟩) (v := ?vre0) rfl (by kernel_rfl) (by kernel_rfl) (by kernel_rfl) (fun _ _ _ h => h) (Or.inl ⟨by rfl, ?hyre0⟩) hHeld ?restre0
            case hyre0 => (intro w hSw; (try dsimp only at hSw); go_simp; try with_reducible rfl)
            try simp only [Act.put, List.setIfInBounds_toArray, List.set_cons_zero, List.set_cons_succ]
            refine wpAnyH_take (i := 1) (oi := ⟨some 34, _, _, _, _, _⟩) (v := ?vre1) rfl (by kernel_rfl) (by kernel_rfl) (by kernel_rfl) (fun _ _ _ h => h) (Or.inl ⟨by rfl, ?hyre1⟩) hHeld ?restre1
            case hyre1 => (intro w hSw; (try dsimp only at hSw); go_simp; try with_reducible rfl)
            try simp only [Act.put, List.setIfInBounds_toArray, List.set_cons_zero, List.set_cons_succ]
            refine wpAnyH_take (i := 2) (oi := ⟨some 35, _, _, _, _, _⟩) (v := ?vre2) rfl (by kernel_rfl) (by kernel_rfl) (by kernel_rfl) (fun _ _ _ h => h) (Or.inl ⟨by rfl, ?hyre2⟩) hHeld ?restre2
            case hyre2 => (intro w hSw; (try dsimp only at hSw); go_simp; try with_reducible rfl)
            try simp only [Act.put, List.setIfInBounds_toArray, List.set_cons_zero, List.set_cons_succ]
            refine wpAnyH_take (i := 3) (oi := ⟨some 36, _, _, _, _, _⟩) (v := ?vre3) rfl (by kernel_rfl) (by kernel_rfl) (by kernel_rfl) (fun _ _ _ h => h) (Or.inl ⟨by rfl, ?hyre3⟩) hHeld ?restre3
            case hyre3 => (intro w hSw; (try dsimp only at hSw); go_simp; try with_reducible rfl)
            try simp only [Act.put, List.setIfInBounds_toArray, List.set_cons_zero, List.set_cons_succ]
            refine wpAnyH_take (i := 4) (oi := ⟨some 37, _, _, _, _, _⟩) (v := ?vre4) rfl (by kernel_rfl) (by kernel_rfl) (by kernel_rfl) (fun _ _ _ h => h) (Or.inl ⟨by rfl, ?hyre4⟩) hHeld ?restre4
            case hyre4 => (intro w hSw; (try dsimp only at hSw); go_simp; try with_reducible rfl)
            try simp only [Act.put, List.setIfInBounds_toArray, List.set_cons_zero, List.set_cons_succ]
            refine wpAnyH_take (i := 5) (oi := ⟨some 38, _, _, _, _, _⟩) (v := ?vre5) rfl (by kernel_rfl) (by kernel_rfl) (by kernel_rfl) (fun _ _ _ h => h) (Or.inl ⟨by rfl, ?hyre5⟩) hHeld ?restre5
            case hyre5 => (intro w hSw; (try dsimp only at hSw); go_simp; try with_reducible rfl)
            try simp only [Act.put, List.setIfInBounds_toArray, List.set_cons_zero, List.set_cons_succ]
            refine wpAnyH_take (i := 6) (oi := ⟨some 39, _, _, _, _, _⟩) (v := ?vre6) rfl (by kernel_rfl) (by kernel_rfl) (by kernel_rfl) (fun _ _ _ h => h) (Or.inl ⟨by rfl, ?hyre6⟩) hHeld ?restre6
            case hyre6 => (intro w hSw; (try dsimp only at hSw); go_simp; try with_reducible rfl)
            try simp only [Act.put, List.setIfInBounds_toArray, List.set_cons_zero, List.set_cons_succ]
            refine wpAnyH_take (i := 7) (oi := ⟨some 40, _, _, _, _, _⟩) (v := ?vre7) rfl (by kernel_rfl) (by kernel_rfl) (by kernel_rfl) (fun _ _ _ h => h) (Or.inl ⟨by rfl, ?hyre7⟩) hHeld ?restre7
            case hyre7 => (intro w hSw; (try dsimp only at hSw); go_simp; try with_reducible rfl)
            try simp only [Act.put, List.setIfInBounds_toArray, List.set_cons_zero, List.set_cons_succ]
            refine wpAnyH_take (i := 8) (oi := ⟨some 41, _, _, _, _, _⟩) (v := ?vre8) rfl (by kernel_rfl) (by kernel_rfl) (by kernel_rfl) (fun _ _ _ h => h) (Or.inl ⟨by rfl, ?hyre8⟩) hHeld ?restre8
            case hyre8 => (intro w hSw; (try dsimp only at hSw); go_simp; try with_reducible rfl)
            try simp only [Act.put, List.setIfInBounds_toArray, List.set_cons_zero, List.set_cons_succ]
            refine wpAnyH_take (i := 9) (oi := ⟨some 42, _, _, _, _, _⟩) (v := ?vre9) rfl (by kernel_rfl) (by kernel_rfl) (by kernel_rfl) (fun _ _ _ h => h) (Or.inl ⟨by rfl, ?hyre9⟩) hHeld ?restre9
            case hyre9 => (intro w hSw; (try dsimp only at hSw); go_simp; try with_reducible rfl)
            try simp only [Act.put, List.setIfInBounds_toArray, List.set_cons_zero, List.set_cons_succ]
            refine wpAnyH_all (rs := [10]) (by kernel_rfl) (by simp) ?_
            intro i hi
            rw [List.mem_singleton] at hi
            subst hi
            refine wpOp_step (o := ⟨some 43, _, _, _, _, _⟩) rfl (fun K hK => ?_)
            rw [if_pos (by rfl)]
            go_simp
            (go_at_call 78; refine (HCE.out _).mono ?_; rintro e3 w3 ⟨rfl, hb3⟩; have hHeld3 := keep4 hHeld hb3; dsimp only)
            refine hK _ _ ⟨hHeld3, ?_⟩
            clear hK K
            try simp only [Act.put, List.setIfInBounds_toArray, List.set_cons_zero, List.set_cons_succ]
            refine wpAnyH_take (i := 11) (oi := ⟨some 44, _, _, _, _, _⟩) (v := ?vrf11) rfl (by kernel_rfl) (by kernel_rfl) (by kernel_rfl) (fun _ _ _ h => h) (Or.inl ⟨by rfl, ?hyrf11⟩) hHeld3 ?restrf11
            case hyrf11 => (intro w hSw; (try dsimp only at hSw); go_simp; try with_reducible rfl)
            try simp only [Act.put, List.setIfInBounds_toArray, List.set_cons_zero, List.set_cons_succ]
            refine wpAnyH_take (i := 12) (oi := ⟨some 45, _, _, _, _, _⟩) (v := ?vrf12) rfl (by kernel_rfl) (by kernel_rfl) (by kernel_rfl) (fun _ _ _ h => h) (Or.inl ⟨by rfl, ?hyrf12⟩) hHeld3 ?restrf12
            case hyrf12 => (intro w hSw; (try dsimp only at hSw); go_simp; try with_reducible rfl)
            try simp only [Act.put, List.setIfInBounds_toArray, List.set_cons_zero, List.set_cons_succ]
            refine wpAnyH_take (i := 13) (oi := ⟨some 46, _, _, _, _, _⟩) (v := ?vrf13) rfl (by kernel_rfl) (by kernel_rfl) (by kernel_rfl) (fun _ _ _ h => h) (Or.inl ⟨by rfl, ?hyrf13⟩) hHeld3 ?restrf13
            case hyrf13 => (intro w hSw; (try dsimp only at hSw); go_simp; try with_reducible rfl)
            try simp only [Act.put, List.setIfInBounds_toArray, List.set_cons_zero, List.set_cons_succ]
            refine wpAnyH_take (i := 14) (oi := ⟨some 47, _, _, _, _, _⟩) (v := ?vrf14) rfl (by kernel_rfl) (by kernel_rfl) (by kernel_rfl) (fun _ _ _ h => h) (Or.inl ⟨by rfl, ?hyrf14⟩) hHeld3 ?restrf14
            case hyrf14 => (intro w hSw; (try dsimp only at hSw); go_simp; try with_reducible rfl)
            try simp only [Act.put, List.setIfInBounds_toArray, List.set_cons_zero, List.set_cons_succ]
            refine wpAnyH_take (i := 15) (oi := ⟨some 48, _, _, _, _, _⟩) (v := ?vrf15) rfl (by kernel_rfl) (by kernel_rfl) (by kernel_rfl) (fun _ _ _ h => h) (Or.inl ⟨by rfl, ?hyrf15⟩) hHeld3 ?restrf15
            case hyrf15 => (intro w hSw; (try dsimp only at hSw); go_simp; try with_reducible rfl)
            try simp only [Act.put, List.setIfInBounds_toArray, List.set_cons_zero, List.set_cons_succ]
            refine wpAnyH_take (i := 16) (oi := ⟨some 49, _, _, _, _, _⟩) (v := ?vrf16) rfl (by kernel_rfl) (by kernel_rfl) (by kernel_rfl) (fun _ _ _ h => h) (Or.inl ⟨by rfl, ?hyrf16⟩) hHeld3 ?restrf16
            case hyrf16 => (intro w hSw; (try dsimp only at hSw); go_simp; try with_reducible rfl)
            try simp only [Act.put, List.setIfInBounds_toArray, List.set_cons_zero, List.set_cons_succ]
            refine wpAnyH_take (i := 17) (oi := ⟨some 50, _, _, _, _, _⟩) (v := ?vrf17) rfl (by kernel_rfl) (by kernel_rfl) (by kernel_rfl) (fun _ _ _ h => h) (Or.inl ⟨by rfl, ?hyrf17⟩) hHeld3 ?restrf17
            case hyrf17 => (intro w hSw; (try dsimp only at hSw); go_simp; try with_reducible rfl)
            try simp only [Act.put, List.setIfInBounds_toArray, List.set_cons_zero, List.set_cons_succ]
            refine wpAnyH_take (i := 18) (oi := ⟨some 51, _, _, _, _, _⟩) (v := ?vrf18) rfl (by kernel_rfl) (by kernel_rfl) (by kernel_rfl) (fun _ _ _ h => h) (Or.inl ⟨by rfl, ?hyrf18⟩) hHeld3 ?restrf18
            case hyrf18 => (intro w hSw; (try dsimp only at hSw); go_simp; try with_reducible rfl)
            try simp only [Act.put, List.setIfInBounds_toArray, List.set_cons_zero, List.set_cons_succ]
            refine wpAnyH_take (i := 19) (oi := ⟨some 52, _, _, _, _, _⟩) (v := ?vrf19) rfl (by kernel_rfl) (by kernel_rfl) (by kernel_rfl) (fun _ _ _ h => h) (Or.inl ⟨by rfl, ?hyrf19⟩) hHeld3 ?restrf19
            case hyrf19 => (intro w hSw; (try dsimp only at hSw); go_simp; try with_reducible rfl)
            try simp only [Act.put, List.setIfInBounds_toArray, List.set_cons_zero, List.set_cons_succ]
            refine wpAnyH_take (i := 20) (oi := ⟨some 53, _, _, _, _, _⟩) (v := ?vrf20) rfl (by kernel_rfl) (by kernel_rfl) (by kernel_rfl) (fun _ _ _ h => h) (Or.inl ⟨by rfl, ?hyrf20⟩) hHeld3 ?restrf20
            case hyrf20 => (intro w hSw; (try dsimp only at hSw); go_simp; try with_reducible rfl)
            try simp only [Act.put, List.setIfInBounds_toArray, List.set_cons_zero, List.set_cons_succ]
            refine wpAnyH_take (i := 21) (oi := ⟨some 54, _, _, _, _, _⟩) (v := ?vrf21) rfl (by kernel_rfl) (by kernel_rfl) (by kernel_rfl) (fun _ _ _ h => h) (Or.inl ⟨by rfl, ?hyrf21⟩) hHeld3 ?restrf21
            case hyrf21 => (intro w hSw; (try dsimp only at hSw); go_simp; try with_reducible rfl)
            try simp only [Act.put, List.setIfInBounds_toArray, List.set_cons_zero, List.set_cons_succ]
            refine wpAnyH_take (i := 22) (oi := ⟨some 55, _, _, _, _, _⟩) (v := ?vrf22) rfl (by kernel_rfl) (by kernel_rfl) (by kernel_rfl) (fun _ _ _ h => h) (Or.inl ⟨by rfl, ?hyrf22⟩) hHeld3 ?restrf22
            case hyrf22 => (intro w hSw; (try dsimp only at hSw); go_simp; try with_reducible rfl)
            try simp only [Act.put, List.setIfInBounds_toArray, List.set_cons_zero, List.set_cons_succ]
            refine wpAnyH_take (i := 23) (oi := ⟨some 56, _, _, _, _, _⟩) (v := ?vrf23) rfl (by kernel_rfl) (by kernel_rfl) (by kernel_rfl) (fun _ _ _ h => h) (Or.inl ⟨by rfl, ?hyrf23⟩) hHeld3 ?restrf23
            case hyrf23 => (intro w hSw; (try dsimp only at hSw); go_simp; try with_reducible rfl)
            try simp only [Act.put, List.setIfInBounds_toArray, List.set_cons_zero, List.set_cons_succ]
            refine wpAnyH_take (i := 24) (oi := ⟨some 57, _, _, _, _, _⟩) (v := ?vrf24) rfl (by kernel_rfl) (by kernel_rfl) (by kernel_rfl) (fun _ _ _ h => h) (Or.inl ⟨by rfl, ?hyrf24⟩) hHeld3 ?restrf24
            case hyrf24 => (intro w hSw; (try dsimp only at hSw); go_simp; try with_reducible rfl)
            try simp only [Act.put, List.setIfInBounds_toArray, List.set_cons_zero, List.set_cons_succ]
            refine wpAnyH_take (i := 25) (oi := ⟨some 58, _, _, _, _, _⟩) (v := ?vrf25) rfl (by kernel_rfl) (by kernel_rfl) (by kernel_rfl) (fun _ _ _ h => h) (Or.inl ⟨by rfl, ?hyrf25⟩) hHeld3 ?restrf25
            case hyrf25 => (intro w hSw; (try dsimp only at hSw); go_simp; try with_reducible rfl)
            try simp only [Act.put, List.setIfInBounds_toArray, List.set_cons_zero, List.set_cons_succ]
            refine wpAnyH_take (i := 26) (oi := ⟨some 59, _, _, _, _, _⟩) (v := ?vrf26) rfl (by kernel_rfl) (by kernel_rfl) (by kernel_rfl) (fun _ _ _ h => h) (Or.inl ⟨by rfl, ?hyrf26⟩) hHeld3 ?restrf26
            case hyrf26 => (intro w hSw; (try dsimp only at hSw); go_simp; try with_reducible rfl)
            try simp only [Act.put, List.setIfInBounds_toArray, List.set_cons_zero, List.set_cons_succ]
            refine wpAnyH_take (i := 27) (oi := ⟨some 60, _, _, _, _, _⟩) (v := ?vrf27) rfl (by kernel_rfl) (by kernel_rfl) (by kernel_rfl) (fun _ _ _ h => h) (Or.inl ⟨by rfl, ?hyrf27⟩) hHeld3 ?restrf27
            case hyrf27 => (intro w hSw; (try dsimp only at hSw); go_simp; try with_reducible rfl)
            try simp only [Act.put, List.setIfInBounds_toArray, List.set_cons_zero, List.set_cons_succ]
            refine wpAnyH_done (by kernel_rfl) ?_ _
            refine NoPanic.normal ?_
            have hfin := hHeld3.2.2.2
            clear hHeld hHeld3 hS0 hw1 hw2 hw3 ha hb hwq
            go_wp2_with fail
            go_ret2
            unfold LoadIs
            rw [loadT_bad HU.out HEV.out hlt HBAD.out]
            exact ⟨HB.out.trans ((HI.out.below.trans (hfin.mono HI.out.below.size)).mono HB.out.size), rfl⟩
      · obtain ⟨e0, he0⟩ : ∃ e0, e0 = checkT ⟨2, x, y, []⟩ := ⟨_, rfl⟩
        have hce : ∀ W, Calls Tryd.prog 78 #[.agg #[.int .i64 2, S x, S y, .string ⟨#[]⟩]] W fun e w' => e = .returned (.int .i64 e0) ∧ Below W.heap.size W w' := fun W => by
          rw [he0]; exact check_any ⟨2, x, y, []⟩ W
        rw [← he0] at hck
        have hne : (e0 != 0) = true := by simpa using hck
        have HCE := Lib.hid hce
        clear hce
        have HBAD : Hid (¬ goodAt l j) := Lib.hid (fun h => by
          have := h.1
          rw [HX.out, HY.out, rowB_check] at this
          rw [he0] at hck
          simp at this; exact hck this)
        clear he0 hck
        have hw1 : IntKind.i64.wrap ((j : Int) + 1) = (j : Int) + 1 := IntWalk.i64_in _ (by omega)
        have hw2 : (0 : Int) ≤ (j : Int) + 1 := by omega
        have hw3 : ((j : Int) + 1).toNat = j + 1 := by omega
        have hw4 : (j : Int) + 1 < (l.length : Int) := by omega
        have hS0 : wr.drew.cell? ⟨g, o + j, none⟩ = some (S x) ∧ wr.drew.cell? ⟨g, o + (j + 1), none⟩ = some (S y) ∧ Below wr.heap.size wr wr.drew := ⟨ha, hb, (Below.refl _ wr).drew⟩
        go_wp2_with fail
        refine wp_region_noPanic ?_
        refine wp_region_held_drew (S := fun w' => w'.cell? ⟨g, o + j, none⟩ = some (S x) ∧ w'.cell? ⟨g, o + (j + 1), none⟩ = some (S y) ∧ Below wr.heap.size wr w') (by kernel_rfl) hS0 (fun hHeld => ?_)
        refine wpAnyH_take (i := 0) (oi := ⟨some 33, _, _, _, _, _⟩) (v := ?va0) rfl (by kernel_rfl) (by kernel_rfl) (by kernel_rfl) (fun _ _ _ h => h) (Or.inl ⟨by rfl, ?hya0⟩) hHeld ?resta0
        case hya0 => (intro w hSw; (try dsimp only at hSw); go_simp; try with_reducible rfl)
        try simp only [Act.put, List.setIfInBounds_toArray, List.set_cons_zero, List.set_cons_succ]
        refine wpAnyH_take (i := 1) (oi := ⟨some 34, _, _, _, _, _⟩) (v := ?va1) rfl (by kernel_rfl) (by kernel_rfl) (by kernel_rfl) (fun _ _ _ h => h) (Or.inl ⟨by rfl, ?hya1⟩) hHeld ?resta1
        case hya1 => (intro w hSw; (try dsimp only at hSw); go_simp; try with_reducible rfl)
        try simp only [Act.put, List.setIfInBounds_toArray, List.set_cons_zero, List.set_cons_succ]
        refine wpAnyH_take (i := 2) (oi := ⟨some 35, _, _, _, _, _⟩) (v := ?va2) rfl (by kernel_rfl) (by kernel_rfl) (by kernel_rfl) (fun _ _ _ h => h) (Or.inl ⟨by rfl, ?hya2⟩) hHeld ?resta2
        case hya2 => (intro w hSw; (try dsimp only at hSw); go_simp; try with_reducible rfl)
        try simp only [Act.put, List.setIfInBounds_toArray, List.set_cons_zero, List.set_cons_succ]
        refine wpAnyH_take (i := 3) (oi := ⟨some 36, _, _, _, _, _⟩) (v := ?va3) rfl (by kernel_rfl) (by kernel_rfl) (by kernel_rfl) (fun _ _ _ h => h) (Or.inl ⟨by rfl, ?hya3⟩) hHeld ?resta3
        case hya3 => (intro w hSw; (try dsimp only at hSw); go_simp; try with_reducible rfl)
        try simp only [Act.put, List.setIfInBounds_toArray, List.set_cons_zero, List.set_cons_succ]
        refine wpAnyH_take (i := 4) (oi := ⟨some 37, _, _, _, _, _⟩) (v := ?va4) rfl (by kernel_rfl) (by kernel_rfl) (by kernel_rfl) (fun _ _ _ h => h) (Or.inl ⟨by rfl, ?hya4⟩) hHeld ?resta4
        case hya4 => (intro w hSw; (try dsimp only at hSw); go_simp; try with_reducible rfl)
        try simp only [Act.put, List.setIfInBounds_toArray, List.set_cons_zero, List.set_cons_succ]
        refine wpAnyH_take (i := 5) (oi := ⟨some 38, _, _, _, _, _⟩) (v := ?va5) rfl (by kernel_rfl) (by kernel_rfl) (by kernel_rfl) (fun _ _ _ h => h) (Or.inl ⟨by rfl, ?hya5⟩) hHeld ?resta5
        case hya5 => (intro w hSw; (try dsimp only at hSw); go_simp; try with_reducible rfl)
        try simp only [Act.put, List.setIfInBounds_toArray, List.set_cons_zero, List.set_cons_succ]
        refine wpAnyH_take (i := 6) (oi := ⟨some 39, _, _, _, _, _⟩) (v := ?va6) rfl (by kernel_rfl) (by kernel_rfl) (by kernel_rfl) (fun _ _ _ h => h) (Or.inl ⟨by rfl, ?hya6⟩) hHeld ?resta6
        case hya6 => (intro w hSw; (try dsimp only at hSw); go_simp; try with_reducible rfl)
        try simp only [Act.put, List.setIfInBounds_toArray, List.set_cons_zero, List.set_cons_succ]
        refine wpAnyH_take (i := 7) (oi := ⟨some 40, _, _, _, _, _⟩) (v := ?va7) rfl (by kernel_rfl) (by kernel_rfl) (by kernel_rfl) (fun _ _ _ h => h) (Or.inl ⟨by rfl, ?hya7⟩) hHeld ?resta7
        case hya7 => (intro w hSw; (try dsimp only at hSw); go_simp; try with_reducible rfl)
        try simp only [Act.put, List.setIfInBounds_toArray, List.set_cons_zero, List.set_cons_succ]
        refine wpAnyH_take (i := 8) (oi := ⟨some 41, _, _, _, _, _⟩) (v := ?va8) rfl (by kernel_rfl) (by kernel_rfl) (by kernel_rfl) (fun _ _ _ h => h) (Or.inl ⟨by rfl, ?hya8⟩) hHeld ?resta8
        case hya8 => (intro w hSw; (try dsimp only at hSw); go_simp; try with_reducible rfl)
        try simp only [Act.put, List.setIfInBounds_toArray, List.set_cons_zero, List.set_cons_succ]
        refine wpAnyH_take (i := 9) (oi := ⟨some 42, _, _, _, _, _⟩) (v := ?va9) rfl (by kernel_rfl) (by kernel_rfl) (by kernel_rfl) (fun _ _ _ h => h) (Or.inl ⟨by rfl, ?hya9⟩) hHeld ?resta9
        case hya9 => (intro w hSw; (try dsimp only at hSw); go_simp; try with_reducible rfl)
        try simp only [Act.put, List.setIfInBounds_toArray, List.set_cons_zero, List.set_cons_succ]
        refine wpAnyH_all (rs := [10]) (by kernel_rfl) (by simp) ?_
        intro i hi
        rw [List.mem_singleton] at hi
        subst hi
        refine wpOp_step (o := ⟨some 43, _, _, _, _, _⟩) rfl (fun K hK => ?_)
        rw [if_pos (by rfl)]
        go_simp
        (go_at_call 78; refine (HCE.out _).mono ?_; rintro e3 w3 ⟨rfl, hb3⟩; have hHeld3 := keep3 hHeld hb3; dsimp only)
        refine hK _ _ ⟨hHeld3, ?_⟩
        clear hK K
        try simp only [Act.put, List.setIfInBounds_toArray, List.set_cons_zero, List.set_cons_succ]
        refine wpAnyH_take (i := 11) (oi := ⟨some 44, _, _, _, _, _⟩) (v := ?vb11) rfl (by kernel_rfl) (by kernel_rfl) (by kernel_rfl) (fun _ _ _ h => h) (Or.inl ⟨by rfl, ?hyb11⟩) hHeld3 ?restb11
        case hyb11 => (intro w hSw; (try dsimp only at hSw); go_simp; try with_reducible rfl)
        try simp only [Act.put, List.setIfInBounds_toArray, List.set_cons_zero, List.set_cons_succ]
        refine wpAnyH_take (i := 12) (oi := ⟨some 45, _, _, _, _, _⟩) (v := ?vb12) rfl (by kernel_rfl) (by kernel_rfl) (by kernel_rfl) (fun _ _ _ h => h) (Or.inl ⟨by rfl, ?hyb12⟩) hHeld3 ?restb12
        case hyb12 => (intro w hSw; (try dsimp only at hSw); go_simp; try with_reducible rfl)
        try simp only [Act.put, List.setIfInBounds_toArray, List.set_cons_zero, List.set_cons_succ]
        refine wpAnyH_take (i := 13) (oi := ⟨some 46, _, _, _, _, _⟩) (v := undef) rfl (by kernel_rfl) (by kernel_rfl) (by kernel_rfl) (fun _ _ _ h => h) (Or.inr ⟨by rfl, rfl⟩) hHeld3 ?restc13
        try simp only [Act.put, List.setIfInBounds_toArray, List.set_cons_zero, List.set_cons_succ]
        refine wpAnyH_take (i := 14) (oi := ⟨some 47, _, _, _, _, _⟩) (v := undef) rfl (by kernel_rfl) (by kernel_rfl) (by kernel_rfl) (fun _ _ _ h => h) (Or.inr ⟨by rfl, rfl⟩) hHeld3 ?restc14
        try simp only [Act.put, List.setIfInBounds_toArray, List.set_cons_zero, List.set_cons_succ]
        refine wpAnyH_take (i := 15) (oi := ⟨some 48, _, _, _, _, _⟩) (v := undef) rfl (by kernel_rfl) (by kernel_rfl) (by kernel_rfl) (fun _ _ _ h => h) (Or.inr ⟨by rfl, rfl⟩) hHeld3 ?restc15
        try simp only [Act.put, List.setIfInBounds_toArray, List.set_cons_zero, List.set_cons_succ]
        refine wpAnyH_take (i := 16) (oi := ⟨some 49, _, _, _, _, _⟩) (v := undef) rfl (by kernel_rfl) (by kernel_rfl) (by kernel_rfl) (fun _ _ _ h => h) (Or.inr ⟨by rfl, rfl⟩) hHeld3 ?restc16
        try simp only [Act.put, List.setIfInBounds_toArray, List.set_cons_zero, List.set_cons_succ]
        refine wpAnyH_take (i := 17) (oi := ⟨some 50, _, _, _, _, _⟩) (v := undef) rfl (by kernel_rfl) (by kernel_rfl) (by kernel_rfl) (fun _ _ _ h => h) (Or.inr ⟨by rfl, rfl⟩) hHeld3 ?restc17
        try simp only [Act.put, List.setIfInBounds_toArray, List.set_cons_zero, List.set_cons_succ]
        refine wpAnyH_take (i := 18) (oi := ⟨some 51, _, _, _, _, _⟩) (v := undef) rfl (by kernel_rfl) (by kernel_rfl) (by kernel_rfl) (fun _ _ _ h => h) (Or.inr ⟨by rfl, rfl⟩) hHeld3 ?restc18
        try simp only [Act.put, List.setIfInBounds_toArray, List.set_cons_zero, List.set_cons_succ]
        refine wpAnyH_take (i := 19) (oi := ⟨some 52, _, _, _, _, _⟩) (v := undef) rfl (by kernel_rfl) (by kernel_rfl) (by kernel_rfl) (fun _ _ _ h => h) (Or.inr ⟨by rfl, rfl⟩) hHeld3 ?restc19
        try simp only [Act.put, List.setIfInBounds_toArray, List.set_cons_zero, List.set_cons_succ]
        refine wpAnyH_take (i := 20) (oi := ⟨some 53, _, _, _, _, _⟩) (v := undef) rfl (by kernel_rfl) (by kernel_rfl) (by kernel_rfl) (fun _ _ _ h => h) (Or.inr ⟨by rfl, rfl⟩) hHeld3 ?restc20
        try simp only [Act.put, List.setIfInBounds_toArray, List.set_cons_zero, List.set_cons_succ]
        refine wpAnyH_take (i := 21) (oi := ⟨some 54, _, _, _, _, _⟩) (v := undef) rfl (by kernel_rfl) (by kernel_rfl) (by kernel_rfl) (fun _ _ _ h => h) (Or.inr ⟨by rfl, rfl⟩) hHeld3 ?restc21
        try simp only [Act.put, List.setIfInBounds_toArray, List.set_cons_zero, List.set_cons_succ]
        refine wpAnyH_take (i := 22) (oi := ⟨some 55, _, _, _, _, _⟩) (v := undef) rfl (by kernel_rfl) (by kernel_rfl) (by kernel_rfl) (fun _ _ _ h => h) (Or.inr ⟨by rfl, rfl⟩) hHeld3 ?restc22
        try simp only [Act.put, List.setIfInBounds_toArray, List.set_cons_zero, List.set_cons_succ]
        refine wpAnyH_take (i := 23) (oi := ⟨some 56, _, _, _, _, _⟩) (v := undef) rfl (by kernel_rfl) (by kernel_rfl) (by kernel_rfl) (fun _ _ _ h => h) (Or.inr ⟨by rfl, rfl⟩) hHeld3 ?restc23
        try simp only [Act.put, List.setIfInBounds_toArray, List.set_cons_zero, List.set_cons_succ]
        refine wpAnyH_take (i := 24) (oi := ⟨some 57, _, _, _, _, _⟩) (v := undef) rfl (by kernel_rfl) (by kernel_rfl) (by kernel_rfl) (fun _ _ _ h => h) (Or.inr ⟨by rfl, rfl⟩) hHeld3 ?restc24
        try simp only [Act.put, List.setIfInBounds_toArray, List.set_cons_zero, List.set_cons_succ]
        refine wpAnyH_take (i := 25) (oi := ⟨some 58, _, _, _, _, _⟩) (v := undef) rfl (by kernel_rfl) (by kernel_rfl) (by kernel_rfl) (fun _ _ _ h => h) (Or.inr ⟨by rfl, rfl⟩) hHeld3 ?restc25
        try simp only [Act.put, List.setIfInBounds_toArray, List.set_cons_zero, List.set_cons_succ]
        refine wpAnyH_take (i := 26) (oi := ⟨some 59, _, _, _, _, _⟩) (v := undef) rfl (by kernel_rfl) (by kernel_rfl) (by kernel_rfl) (fun _ _ _ h => h) (Or.inr ⟨by rfl, rfl⟩) hHeld3 ?restc26
        try simp only [Act.put, List.setIfInBounds_toArray, List.set_cons_zero, List.set_cons_succ]
        refine wpAnyH_take (i := 27) (oi := ⟨some 60, _, _, _, _, _⟩) (v := ?vd) rfl (by kernel_rfl) (by kernel_rfl) (by kernel_rfl) (fun _ _ _ h => h) (Or.inl ⟨by rfl, ?hyd⟩) hHeld3 ?restd
        case hyd => (intro w hSw; (try dsimp only at hSw); go_simp; try with_reducible rfl)
        try simp only [Act.put, List.setIfInBounds_toArray, List.set_cons_zero, List.set_cons_succ]
        refine wpAnyH_done (by kernel_rfl) ?_ _
        refine NoPanic.normal ?_
        have hfin := hHeld3.2.2
        clear hHeld hHeld3 hS0 hw1 hw2 hw3 ha hb
        go_wp2_with fail
        go_ret2
        unfold LoadIs
        rw [loadT_bad HU.out HEV.out hlt HBAD.out]
        exact ⟨HB.out.trans ((HI.out.below.trans (hfin.mono HI.out.below.size)).mono HB.out.size), rfl⟩
    · obtain rfl : j = l.length := by omega
      have hi := HI.out
      obtain ⟨t, ht1, ht2, ht3⟩ := loadT_good HU.out HE.out hl2 (fun q h1 h2 => hi.good q h1 h2)
      have hlen := flatT_length t
      rw [ht2] at hlen
      have HT1 := Lib.hid ht1; have HT2 := Lib.hid ht2; have HLEN := Lib.hid hlen
      clear ht1 ht2 ht3 hlen hinv hbr hi hev
      go_wp2_with fail
      go_ret2
      have hi := HI.out
      unfold LoadIs
      rw [HT1.out]
      have e1 : cellsT t = (l.take l.length).map S := by rw [List.take_of_length_le (Nat.le_refl _), ← HT2.out]; rfl
      have e2 : t.length = l.length / 2 := by have := HLEN.out; omega
      have hown : OwnT wr v t := OwnT.ofOwns (b := w1.heap.size) (by rw [e1, e2]; exact hi.own)
      exact ⟨HB.out.trans (hi.below.mono HB.out.size), _, v, rfl, ⟨hi.row, hown, hi.ne⟩, HB.out.size, fun g hg => Nat.le_trans HB.out.size (own_base hi.own hg)⟩
theorem tload_any (s : Bytes) (w : World) (hs : s.length < 4294967281) (hg : Glob w) : Calls Tryd.prog 76 #[S s] w (LoadIs (loadT s) w) := by
  cases hu : unpack s with
  | none => exact tload_none s w hu hs hg
  | some l =>
    by_cases hl : l.length % 2 ≠ 0 ∨ 32 < l.length
    · exact tload_odd s l w hu hl hs hg
    · exact tload_even s l w hu (by omega) (by omega) hs hg
end Go.Proofs.YtocgnkenlfdffaaDoor
