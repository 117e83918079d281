/- PROVED HERE: the law ExpandFits of layer 15: for every input the call returns true, and each argument reads behind the call as it read before. Conditions: those of the row: package-level variables start as the program's text lays them. -/
import Derived.Test.YtjeblkicgmmhiaaGreatDoorCards
import Derived.Test.YtjeblkicgmmhiaaGreatDoorTie
import Derived.WalkKit
import Derived.ProofKit
import Derived.OpenShut
import Derived.Deep.DeepHandedRow
import Derived.Lib.LaidTab
import Derived.Test.YtjeblkicgmmhiaaGreatDoorAbTy
import Derived.Test.YtjeblkicgmmhiaaGreatDoorP3
import Derived.Test.YtjeblkicgmmhiaaGreatDoorP8
namespace Go.Proofs.YtjeblkicgmmhiaaGreatDoor.expandFits
open Go.ChangeShapes Go.WideShapes Go.ChangeAt Go.RowKit Go.Proofs.YtjeblkicgmmhiaaGreatDoor.Ab
set_option linter.unusedSimpArgs false
set_option maxRecDepth 100000
set_option linter.unusedVariables false

theorem own : ownKnob Tryz.prog.godebug = none := by kernel_rfl
theorem run_ok : ∀ xss, ShapeAll Tryz.prog (Tryz.f7).params.toList xss → Pur F0 7 (argsA Tryz.prog (Tryz.f7).params.toList xss) [] .no (.ret (B true)) .no := by
  intro xss h
  rw [Tryz.params7] at h ⊢
  obtain ⟨d0, x0, r0, rfl, h0, d1, x1, r1, rfl, h1, d2, x2, r2, rfl, h2, rfl⟩ := h
  obtain ⟨a0l, a0v, a0h, a0k, rfl, a0n⟩ := pieces_of h0
  obtain ⟨a1, rfl, a1w⟩ := int_of h1
  obtain ⟨a2, rfl, a2w⟩ := int_of h2
  simp only [argsA, arg_int, arg_pieces, List.map_cons, List.map_nil]
  exact expandFits_ok a0l a0v a0h a0k a1 a2
theorem contract (H : Type) (enc : TypeId × Value → H) (W : World) (base : Nat) (args : Array Value) (ds gs : List (DataW H)) (before : List MemPlace)
    (hval : ∀ (j : Nat) t v, (Tryz.f7).params[j]? = some t → args[j]? = some v → Value.okWide Tryz.prog W .any base t v)
    (hW : DataW.Whole enc Tryz.prog (Tryz.f7).params.toList Rows.expandFitsSpec.vars false W args.toList ds gs before) (hL : laidMet Tryz.prog Rows.expandFitsRow.laid W) :
    Calls Tryz.prog 7 args W fun e W' => ∃ v, e = .returned v ∧ Rows.expandFitsSpec.post enc Tryz.prog Tryz.f7 false true false false W args v W' := by
  have hb : (Tryz.f7).body.isSome = true := by kernel_rfl
  obtain ⟨body, hbody⟩ := Option.isSome_iff_exists.1 hb
  refine law_calls (cfg := cfg0 Tryz.prog) (F := F0) (L := tset Tryz.prog 400 (Tryz.f7).params.toList []) (tb := 4) F0_ok Tryz.func7 hbody (by kernel_rfl) glob_ok (by kernel_rfl) (by kernel_rfl) (by kernel_rfl) (by kernel_rfl) (by kernel_rfl) (by kernel_rfl) Tryz.underlying4 rfl ?_ run_ok hval hW
  intro l hl
  rw [Tryz.params7] at hl
  match l, hl with
  | [d1, d2, d3], _ => exact ⟨rfl, rfl, rfl⟩

noncomputable def laidWorld (os : Os) : World :=
  layAt (layAt (World.holding Tryz.prog os ⟨#[], #[], []⟩) 4 (pairs (Rows.laid_unicode_utf8_acceptRanges (H := Unit)))) 3 (leaves Go.Pinned.utf8First)
theorem laid_met (os : Os) : laidMet Tryz.prog Rows.expandFitsRow.laid ((laidWorld os).forCall (fun _ _ => 0) ⟨#[], #[Value.slice none 0 0, .int .i64 0, .int .i64 0], []⟩).memory :=
  laidMet_of_run' 8 (by kernel_rfl) (by kernel_rfl)
theorem reads (os : Os) {H : Type} (enc : TypeId × Value → H) : ∃ places, DataW.whole enc Tryz.prog ((laidWorld os).forCall (fun _ _ => 0) ⟨#[], #[Value.slice none 0 0, .int .i64 0, .int .i64 0], []⟩).memory (Tryz.f7).params.toList Rows.expandFitsSpec.vars false #[Value.slice none 0 0, .int .i64 0, .int .i64 0].toList 8 = some ([.nil, .lit (.int .i64 0), .lit (.int .i64 0)], [], places) :=
  ⟨[], by kernel_rfl⟩
theorem lifted (os : Os) (started : os.Started) (H : Type) (enc : TypeId × Value → H) (F : Stop.Interp) :
    ReturnsInHanded {} Tryz.checked os 7 .any ((OpenSpec.ofChange Rows.expandFitsSpec).preRow enc Tryz.prog Tryz.f7 Rows.expandFitsRow.domain false Rows.expandFitsRow.laid) (((OpenSpec.ofChange Rows.expandFitsSpec).at F).post enc Tryz.prog Tryz.f7 false true false false) := by
  obtain ⟨places, hx⟩ := reads os enc
  refine returnsInHanded_of_row (C := Tryz.checked) (s := OpenSpec.ofChange Rows.expandFitsSpec) own started (by kernel_rfl) Tryz.func7
    (witness_row_at (enc := enc) (C := Tryz.checked) false (laidWorld os) #[.slice none 0 0, .int .i64 0, .int .i64 0] rfl (by kernel_rfl) (by kernel_rfl) (by kernel_rfl)
      (OpenSpec.preRow_of_cond 8 hx (by kernel_rfl) (fun k hk => by cases hk) (by kernel_rfl) (laid_met os))) ?_
  intro W base args ds gs before hval hW _ _ _ hL _ _
  exact contract H enc W base args ds gs before hval hW hL
theorem said : Rows.ExpandFitsSaid :=
  OpenClaim.holds_of_cond 7 Tryz.f7 rfl rfl rfl rfl rfl rfl rfl ⟨rfl, rfl, rfl, rfl, rfl⟩ rfl rfl rfl rfl rfl (by kernel_rfl) Tryz.func7 (by kernel_rfl)
    (of_decide_eq_true (by kernel_rfl)) (by unfold Func.isWrapper; first | (rw [if_pos (by decide +kernel)]; kernel_rfl) | (rw [if_neg (by decide +kernel)]; exact ⟨rfl, rfl⟩))
    (fun os started H enc _ F => by rw [OpenClaim.pre_eq_preRow]; exact lifted os started H enc F)
/-- No parameter wants a stand-in; the program's own looks are off: what the card asks. -/
theorem plain (f : FuncId) (fn : Func) (hf : Tryz.pinned.checked.prog.funcNamed "parterre/parterrelaw15.ExpandFits" = some f) (hfn : Tryz.pinned.checked.prog.funcs[f]? = some fn) :
    true = Tryz.pinned.checked.prog.looks [] ∧ ∀ (j : Nat) t, fn.params[j]? = some t → Tryz.pinned.checked.prog.wantsStandIn t = false := by
  obtain rfl : f = 7 := Option.some.inj ((show Tryz.prog.funcNamed "parterre/parterrelaw15.ExpandFits" = some 7 by kernel_rfl).symm.trans hf) |>.symm
  obtain rfl : fn = Tryz.f7 := (Option.some.inj (Tryz.func7.symm.trans hfn)).symm
  refine ⟨by kernel_rfl, fun j t ht => ?_⟩
  rw [Tryz.params7] at ht
  have hm := Array.mem_of_getElem? ht
  simp only [List.mem_toArray, List.mem_cons, List.not_mem_nil, or_false] at hm
  rcases hm with rfl | rfl | rfl
  all_goals first
    | exact (show Tryz.prog.wantsStandIn 51 = false by kernel_rfl)
    | exact (show Tryz.prog.wantsStandIn 3 = false by kernel_rfl)
theorem card : Rows.ExpandFitsCardSaid :=
  Claim7.holds_tied_plain_at .later [] _ _ _ _ said (fun _ h => by cases h) (by kernel_rfl) (fun _ h => by cases h) expandFits_row_tie rfl ⟨rfl, rfl⟩ (by kernel_rfl) rfl plain (by kernel_rfl)
end Go.Proofs.YtjeblkicgmmhiaaGreatDoor.expandFits
