/- WHAT IS PROVED: the law ShardNil answers true for every step, and its argument reads behind the call as before. Condition: the listed package-level variables (strconv's sentinels and powers of ten, math/bits' tables) hold what the program's text lays, and the card ties that to the text. -/
import Derived.Test.YtocgnkenlfdffaaDoorShW6
import Derived.Test.YtocgnkenlfdffaaDoorStep
namespace Go.Proofs.YtocgnkenlfdffaaDoor
open Go Go.RowKit Go.Wap Go.ChangeShapes Go.WideShapes Go.ChangeAt Go.WideMaps Go.WideElems
open Go.ChangeMaps (open_string shut_string)
set_option maxRecDepth 100000 in
theorem nil_contract (H : Type) (enc : TypeId × Value → H) (W : World) (base : Nat) (args : Array Value) (ds gs : List (DataW H)) (before : List MemPlace)
    (hval : ∀ (j : Nat) t v, Tryd.f7.params[j]? = some t → args[j]? = some v → Value.okWide Tryd.prog W .any base t v)
    (hW : DataW.Whole enc Tryd.prog Tryd.f7.params.toList Rows.shardNilSpec.vars false W args.toList ds gs before) (hG : Glob W) :
    Calls Tryd.prog 7 args W fun e W' => ∃ v, e = .returned v ∧ Rows.shardNilSpec.post enc Tryd.prog Tryd.f7 false true false false W args v W' := by
  have hW' := hW
  obtain ⟨p, q, hA, hV, rfl, hfz, hnd⟩ := hW
  rw [Tryd.params7] at hA hval
  obtain ⟨v0, vs0, d0, ds0, p0, q0, hargs, rfl, rfl, h0, r0⟩ := trodAll_cons hA
  obtain ⟨rfl, rfl, rfl⟩ := trodAll_nil r0
  obtain rfl : args = #[v0] := by cases args; simp_all
  obtain ⟨rfl, rfl⟩ := trodVars_none hV
  obtain ⟨k, c, n, o, X, rfl⟩ := open_step (hval 0 71 v0 rfl rfl) h0
  refine (nil_any k c n o X W hG).mono fun e W' ⟨he, hb⟩ => ⟨_, he, ?_⟩
  exact post_law 4 hW' rfl laidOut (by rw [Tryd.params7]; intro t ht; simp at ht; subst ht; exact ⟨by kernel_rfl, of_decide_eq_true (by kernel_rfl)⟩) rfl Tryd.underlying4 rfl hb
noncomputable def nilStart (os : Os) : World := World.doorLaid Tryd.prog 72 os
abbrev nilArgs : Array Value := #[stepV 0 0 0 ⟨0, [], [], []⟩ []]
set_option maxRecDepth 100000 in
theorem nil_met (os : Os) : laidMetH Tryd.prog Rows.shardNilRow.laid ((nilStart os).forCall (fun _ _ => 0) ⟨#[], nilArgs, []⟩).memory :=
  laidMetH_of_parts3 (fuel := 8) (laidMet_of_run' 8 (by kernel_rfl) (by kernel_rfl)) (by kernel_rfl) (by kernel_rfl)
set_option maxRecDepth 100000 in
theorem nil_reads (os : Os) {H : Type} (enc : TypeId × Value → H) : ∃ places, DataW.whole enc Tryd.prog ((nilStart os).forCall (fun _ _ => 0) ⟨#[], nilArgs, []⟩).memory Tryd.f7.params.toList Rows.shardNilSpec.vars false nilArgs.toList 8 =
    some ([.agg [.lit (.int .i64 0), .lit (.int .i64 0), .lit (.int .i64 0), .agg [.lit (.int .i64 0), .lit (.string []), .lit (.string []), .lit (.string [])], .lit (.string [])]], [], places) :=
  ⟨[], by kernel_rfl⟩
set_option maxRecDepth 100000 in
theorem nil_glob {W : World} (h : laidMetH Tryd.prog Rows.shardNilRow.laid W) (hsh : W.ShapedOpen Tryd.prog) : Glob W := by
  rw [MakeChecks.laidMetH_plain _ _ _ (by kernel_rfl)] at h
  exact glob_of_laid h hsh
set_option maxRecDepth 100000 in
theorem nil_lifted (os : Os) (started : os.Started) (H : Type) (enc : TypeId × Value → H) (F : Stop.Interp) :
    ReturnsInHanded {} Tryd.checked os 7 .any ((OpenSpec.ofChange Rows.shardNilSpec).preRow enc Tryd.prog Tryd.f7 Rows.shardNilRow.domain false Rows.shardNilRow.laid) (((OpenSpec.ofChange Rows.shardNilSpec).at F).post enc Tryd.prog Tryd.f7 false true false false) := by
  obtain ⟨places, hx⟩ := nil_reads os enc
  refine returnsInHanded_of_row (C := Tryd.checked) (s := OpenSpec.ofChange Rows.shardNilSpec) ownB started (by kernel_rfl) Tryd.func7
    (witness_row_atRef (enc := enc) (C := Tryd.checked) false (nilStart os) nilArgs rfl (by kernel_rfl) (by kernel_rfl) (by kernel_rfl)
      (OpenSpec.preRow_of_cond 8 hx (by kernel_rfl) (fun k hk => by cases hk) (by kernel_rfl) (nil_met os))) ?_
  intro W base args ds gs before hval hW _ _ _ hL hsh _
  exact nil_contract H enc W base args ds gs before hval hW (nil_glob hL hsh)
theorem nil_said : Rows.ShardNilSaid :=
  OpenClaim.holds_of_cond 7 Tryd.f7 rfl rfl rfl rfl rfl rfl rfl ⟨rfl, rfl, rfl, rfl, rfl⟩ rfl rfl rfl rfl rfl (by kernel_rfl) Tryd.func7 (by kernel_rfl)
    (of_decide_eq_true (by kernel_rfl)) (by unfold Func.isWrapper; first | (rw [if_pos (by decide +kernel)]; kernel_rfl) | (rw [if_neg (by decide +kernel)]; exact ⟨rfl, rfl⟩))
    (fun os started H enc _ F => by rw [OpenClaim.pre_eq_preRow]; exact nil_lifted os started H enc F)
theorem nil_plain (f : FuncId) (fn : Func) (hf : Tryd.pinned.checked.prog.funcNamed "wapentake/wapentakelaw14.ShardNil" = some f) (hfn : Tryd.pinned.checked.prog.funcs[f]? = some fn) :
    true = Tryd.pinned.checked.prog.looks [] ∧ ∀ (j : Nat) t, fn.params[j]? = some t → Tryd.pinned.checked.prog.wantsStandIn t = false := by
  obtain rfl : f = 7 := Option.some.inj ((show Tryd.prog.funcNamed "wapentake/wapentakelaw14.ShardNil" = some 7 by kernel_rfl).symm.trans hf) |>.symm
  obtain rfl : fn = Tryd.f7 := (Option.some.inj (Tryd.func7.symm.trans hfn)).symm
  refine ⟨by kernel_rfl, fun j t ht => ?_⟩
  rw [Tryd.params7] at ht
  have hm := Array.mem_of_getElem? ht
  simp at hm
  subst hm
  exact (show Tryd.prog.wantsStandIn 71 = false by kernel_rfl)
theorem shardNil_card : Rows.ShardNilCardSaid :=
  Claim7.holds_tied_plain_at .later [] _ _ _ _ nil_said (fun _ h => by cases h) (by kernel_rfl) (fun _ h => by cases h) shardNil_row_tie rfl ⟨rfl, rfl⟩ (by kernel_rfl) rfl nil_plain (by kernel_rfl)
end Go.Proofs.YtocgnkenlfdffaaDoor
