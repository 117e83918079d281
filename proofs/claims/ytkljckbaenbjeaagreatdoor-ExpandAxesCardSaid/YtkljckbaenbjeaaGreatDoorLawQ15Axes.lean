/- PROVED HERE: the law ExpandAxes of layer 15: for every input the call returns true, and each argument reads behind the call as it read before. Conditions: those of the row: package-level variables start as the program's text lays them. -/
import Derived.Test.YtkljckbaenbjeaaGreatDoorCards
import Derived.Test.YtkljckbaenbjeaaGreatDoorTie
import Derived.WalkKit
import Derived.ProofKit
import Derived.OpenShut
import Derived.Deep.DeepHandedRow
import Derived.Lib.LaidTab
import Derived.Test.YtkljckbaenbjeaaGreatDoorAbTy
import Derived.Test.YtkljckbaenbjeaaGreatDoorQ3
import Derived.Test.YtkljckbaenbjeaaGreatDoorQ8
namespace Go.Proofs.YtkljckbaenbjeaaGreatDoor.expandAxes
open Go.ChangeShapes Go.WideShapes Go.ChangeAt Go.RowKit Go.Proofs.YtkljckbaenbjeaaGreatDoor.Ab
set_option linter.unusedSimpArgs false
set_option maxRecDepth 100000
set_option linter.unusedVariables false
theorem own : ownKnob Tryz.prog.godebug = none := by kernel_rfl
theorem run_ok : ∀ xss, ShapeAll Tryz.prog (Tryz.f3).params.toList xss → Pur F0 3 (argsA Tryz.prog (Tryz.f3).params.toList xss) [] .no (.ret (B true)) .no := by
 intro xss h
 rw [Tryz.params3] at h ⊢
 obtain ⟨d0, x0, r0, rfl, h0, d1, x1, r1, rfl, h1, d2, x2, r2, rfl, h2, d3, x3, r3, rfl, h3, d4, x4, r4, rfl, h4, rfl⟩ := h
 obtain ⟨a0l, a0v, a0h, a0k, rfl, a0n⟩ := pieces_of h0
 obtain ⟨a1, rfl, a1w⟩ := int_of h1
 obtain ⟨a2, rfl⟩ := bool_of h2
 obtain ⟨a3, rfl, a3w⟩ := int_of h3
 obtain ⟨a4lr, a4lv, a4ts, a4tv, a4fr, a4to, a4hl, a4ht, rfl⟩ := axis_of h4
 simp only [argsA, arg_axis, arg_bool, arg_int, arg_pieces, List.map_cons, List.map_nil]
 exact expandAxes_ok a0l a0v a0h a0k a1 a2 a3 a4lr a4lv a4ts a4tv a4fr a4to a4hl a4ht
theorem contract (H : Type) (enc : TypeId × Value → H) (W : World) (base : Nat) (args : Array Value) (ds gs : List (DataW H)) (before : List MemPlace)
 (hval : ∀ (j : Nat) t v, (Tryz.f3).params[j]? = some t → args[j]? = some v → Value.okWide Tryz.prog W .any base t v)
 (hW : DataW.Whole enc Tryz.prog (Tryz.f3).params.toList Rows.expandAxesSpec.vars false W args.toList ds gs before) (hL : laidMet Tryz.prog Rows.expandAxesRow.laid W) :
 Calls Tryz.prog 3 args W fun e W' => ∃ v, e = .returned v ∧ Rows.expandAxesSpec.post enc Tryz.prog Tryz.f3 false true false false W args v W' := by
 have hb : (Tryz.f3).body.isSome = true := by kernel_rfl
 obtain ⟨body, hbody⟩ := Option.isSome_iff_exists.1 hb
 refine law_calls (cfg := cfg0 Tryz.prog) (F := F0) (L := tset Tryz.prog 400 (Tryz.f3).params.toList []) (tb := 4) F0_ok Tryz.func3 hbody (by kernel_rfl) glob_ok (by kernel_rfl) (by kernel_rfl) (by kernel_rfl) (by kernel_rfl) (by kernel_rfl) (by kernel_rfl) Tryz.underlying4 rfl ?_ run_ok hval hW
 intro l hl
 rw [Tryz.params3] at hl
 match l, hl with
 | [d1, d2, d3, d4, d5], _ => exact ⟨rfl, rfl, rfl⟩
noncomputable def laidWorld (os : Os) : World :=
 layAt (layAt (World.holding Tryz.prog os ⟨#[], #[], []⟩) 4 (pairs (Rows.laid_unicode_utf8_acceptRanges (H := Unit)))) 3 (leaves Go.Pinned.utf8First)
theorem laid_met (os : Os) : laidMet Tryz.prog Rows.expandAxesRow.laid ((laidWorld os).forCall (fun _ _ => 0) ⟨#[], #[Value.slice none 0 0, .int .i64 0, .bool false, .int .i64 0, .agg #[.slice none 0 0, .slice none 0 0, .int .i64 0, .int .i64 0]], []⟩).memory :=
 laidMet_of_run' 8 (by kernel_rfl) (by kernel_rfl)
theorem reads (os : Os) {H : Type} (enc : TypeId × Value → H) : ∃ places, DataW.whole enc Tryz.prog ((laidWorld os).forCall (fun _ _ => 0) ⟨#[], #[Value.slice none 0 0, .int .i64 0, .bool false, .int .i64 0, .agg #[.slice none 0 0, .slice none 0 0, .int .i64 0, .int .i64 0]], []⟩).memory (Tryz.f3).params.toList Rows.expandAxesSpec.vars false #[Value.slice none 0 0, .int .i64 0, .bool false, .int .i64 0, .agg #[.slice none 0 0, .slice none 0 0, .int .i64 0, .int .i64 0]].toList 8 = some ([.nil, .lit (.int .i64 0), .lit (.bool false), .lit (.int .i64 0), .agg [.nil, .nil, .lit (.int .i64 0), .lit (.int .i64 0)]], [], places) :=
 ⟨[], by kernel_rfl⟩
theorem lifted (os : Os) (started : os.Started) (H : Type) (enc : TypeId × Value → H) (F : Stop.Interp) :
 ReturnsInHanded {} Tryz.checked os 3 .any ((OpenSpec.ofChange Rows.expandAxesSpec).preRow enc Tryz.prog Tryz.f3 Rows.expandAxesRow.domain false Rows.expandAxesRow.laid) (((OpenSpec.ofChange Rows.expandAxesSpec).at F).post enc Tryz.prog Tryz.f3 false true false false) := by
 obtain ⟨places, hx⟩ := reads os enc
 refine returnsInHanded_of_row (C := Tryz.checked) (s := OpenSpec.ofChange Rows.expandAxesSpec) own started (by kernel_rfl) Tryz.func3
  (witness_row_at (enc := enc) (C := Tryz.checked) false (laidWorld os) #[.slice none 0 0, .int .i64 0, .bool false, .int .i64 0, .agg #[.slice none 0 0, .slice none 0 0, .int .i64 0, .int .i64 0]] rfl (by kernel_rfl) (by kernel_rfl) (by kernel_rfl)
   (OpenSpec.preRow_of_cond 8 hx (by kernel_rfl) (fun k hk => by cases hk) (by kernel_rfl) (laid_met os))) ?_
 intro W base args ds gs before hval hW _ _ _ hL _ _
 exact contract H enc W base args ds gs before hval hW hL
theorem said : Rows.ExpandAxesSaid :=
 OpenClaim.holds_of_cond 3 Tryz.f3 rfl rfl rfl rfl rfl rfl rfl ⟨rfl, rfl, rfl, rfl, rfl⟩ rfl rfl rfl rfl rfl (by kernel_rfl) Tryz.func3 (by kernel_rfl)
  (of_decide_eq_true (by kernel_rfl)) (by unfold Func.isWrapper; first | (rw [if_pos (by decide +kernel)]; kernel_rfl) | (rw [if_neg (by decide +kernel)]; exact ⟨rfl, rfl⟩))
  (fun os started H enc _ F => by rw [OpenClaim.pre_eq_preRow]; exact lifted os started H enc F)
theorem plain (f : FuncId) (fn : Func) (hf : Tryz.pinned.checked.prog.funcNamed "parterre/parterrelaw15.ExpandAxes" = some f) (hfn : Tryz.pinned.checked.prog.funcs[f]? = some fn) :
 true = Tryz.pinned.checked.prog.looks [] ∧ ∀ (j : Nat) t, fn.params[j]? = some t → Tryz.pinned.checked.prog.wantsStandIn t = false := by
 obtain rfl : f = 3 := Option.some.inj ((show Tryz.prog.funcNamed "parterre/parterrelaw15.ExpandAxes" = some 3 by kernel_rfl).symm.trans hf) |>.symm
 obtain rfl : fn = Tryz.f3 := (Option.some.inj (Tryz.func3.symm.trans hfn)).symm
 refine ⟨by kernel_rfl, fun j t ht => ?_⟩
 rw [Tryz.params3] at ht
 have hm := Array.mem_of_getElem? ht
 simp only [List.mem_toArray, List.mem_cons, List.not_mem_nil, or_false] at hm
 rcases hm with rfl | rfl | rfl | rfl | rfl
 all_goals first
  | exact (show Tryz.prog.wantsStandIn 22 = false by kernel_rfl)
  | exact (show Tryz.prog.wantsStandIn 4 = false by kernel_rfl)
  | exact (show Tryz.prog.wantsStandIn 3 = false by kernel_rfl)
  | exact (show Tryz.prog.wantsStandIn 26 = false by kernel_rfl)
theorem card : Rows.ExpandAxesCardSaid :=
 Claim7.holds_tied_plain_at .later [] _ _ _ _ said (fun _ h => by cases h) (by kernel_rfl) (fun _ h => by cases h) expandAxes_row_tie rfl ⟨rfl, rfl⟩ (by kernel_rfl) rfl plain (by kernel_rfl)
end Go.Proofs.YtkljckbaenbjeaaGreatDoor.expandAxes
