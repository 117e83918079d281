/- PROVED HERE: the law TrackTells of layer 06: for every input the call returns true, and each argument reads behind the call as it read before. Conditions: those of the row: package-level variables start as the program's text lays them. -/
import Derived.Test.YtlhajccbfapieaaGreatDoorCards
import Derived.Test.YtlhajccbfapieaaGreatDoorTie
import Derived.WalkKit
import Derived.ProofKit
import Derived.OpenShut
import Derived.Deep.DeepHandedRow
import Derived.Lib.LaidTab
import Derived.Test.YtlhajccbfapieaaGreatDoorAbTy
import Derived.Test.YtlhajccbfapieaaGreatDoorQ3
import Derived.Test.YtlhajccbfapieaaGreatDoorQ6
namespace Go.Proofs.YtlhajccbfapieaaGreatDoor.trackTells
open Go.ChangeShapes Go.WideShapes Go.ChangeAt Go.RowKit Go.Proofs.YtlhajccbfapieaaGreatDoor.Ab
set_option linter.unusedSimpArgs false
set_option maxRecDepth 100000
set_option linter.unusedVariables false
theorem own : ownKnob Tryz.prog.godebug = none := by kernel_rfl
theorem run_ok : ∀ xss, ShapeAll Tryz.prog (Tryz.f3).params.toList xss → Pur F0 3 (argsA Tryz.prog (Tryz.f3).params.toList xss) [] .no (.ret (B true)) .no := by
 intro xss h
 rw [Tryz.params3] at h ⊢
 obtain ⟨d0, x0, r0, rfl, h0, d1, x1, r1, rfl, h1, d2, x2, r2, rfl, h2, rfl⟩ := h
 obtain ⟨a0, rfl⟩ := trk_of h0
 obtain ⟨a1l, a1v, a1h, a1k, rfl, a1n⟩ := pieces_of h1
 obtain ⟨a2l, a2v, a2h, a2k, rfl, a2n⟩ := pieces_of h2
 simp only [argsA, arg_pieces, arg_trk, List.map_cons, List.map_nil]
 exact trackTells_ok a0 a1l a1v a1h a1k a2l a2v a2h a2k
theorem contract (H : Type) (enc : TypeId × Value → H) (W : World) (base : Nat) (args : Array Value) (ds gs : List (DataW H)) (before : List MemPlace)
 (hval : ∀ (j : Nat) t v, (Tryz.f3).params[j]? = some t → args[j]? = some v → Value.okWide Tryz.prog W .any base t v)
 (hW : DataW.Whole enc Tryz.prog (Tryz.f3).params.toList Rows.trackTellsSpec.vars false W args.toList ds gs before) (hL : laidMet Tryz.prog Rows.trackTellsRow.laid W) :
 Calls Tryz.prog 3 args W fun e W' => ∃ v, e = .returned v ∧ Rows.trackTellsSpec.post enc Tryz.prog Tryz.f3 false true false false W args v W' := by
 have hb : (Tryz.f3).body.isSome = true := by kernel_rfl
 obtain ⟨body, hbody⟩ := Option.isSome_iff_exists.1 hb
 have hT : Lib.TabIs Tryz.prog W "internal/strconv.uint64pow10" .u64 Lib.pow10Tab := Lib.tabIs_of_head (rest := [("unicode/utf8.acceptRanges", Rows.laid_unicode_utf8_acceptRanges), ("unicode/utf8.first", Rows.laid_unicode_utf8_first)]) (g := 1) (by kernel_rfl) rfl (t := 152) (e := 142) (n := 20) (by kernel_rfl) (by kernel_rfl) (by kernel_rfl) (by kernel_rfl) (laid_tail (laid_tail hL))
 refine law_calls (cfg := cfg0 Tryz.prog) (F := F0) (L := tset Tryz.prog 400 (Tryz.f3).params.toList []) (tb := 4) F0_ok Tryz.func3 hbody (by kernel_rfl) (glob_ok hT) (by kernel_rfl) (by kernel_rfl) (by kernel_rfl) (by kernel_rfl) (by kernel_rfl) (by kernel_rfl) Tryz.underlying4 rfl ?_ run_ok hval hW
 intro l hl
 rw [Tryz.params3] at hl
 match l, hl with
 | [d1, d2, d3], _ => exact ⟨rfl, rfl, rfl⟩
noncomputable def laidWorld (os : Os) : World :=
 layAt (layAt (layAt (layAt (layAt (World.holding Tryz.prog os ⟨#[], #[], []⟩) 2 (leaves (Rows.laid_math_bits_deBruijn32tab (H := Unit)))) 3 (leaves (Rows.laid_math_bits_deBruijn64tab (H := Unit)))) 1 (leaves (Rows.laid_internal_strconv_uint64pow10 (H := Unit)))) 5 (pairs (Rows.laid_unicode_utf8_acceptRanges (H := Unit)))) 4 (leaves Go.Pinned.utf8First)
theorem laid_met (os : Os) : laidMet Tryz.prog Rows.trackTellsRow.laid ((laidWorld os).forCall (fun _ _ => 0) ⟨#[], #[Value.agg #[.int .i64 0, .int .i64 0, .int .i64 0, .int .i64 0, .bool false, .int .i64 0, .int .i64 0], .slice none 0 0, .slice none 0 0], []⟩).memory :=
 laidMet_of_run' 8 (by kernel_rfl) (by kernel_rfl)
theorem reads (os : Os) {H : Type} (enc : TypeId × Value → H) : ∃ places, DataW.whole enc Tryz.prog ((laidWorld os).forCall (fun _ _ => 0) ⟨#[], #[Value.agg #[.int .i64 0, .int .i64 0, .int .i64 0, .int .i64 0, .bool false, .int .i64 0, .int .i64 0], .slice none 0 0, .slice none 0 0], []⟩).memory (Tryz.f3).params.toList Rows.trackTellsSpec.vars false #[Value.agg #[.int .i64 0, .int .i64 0, .int .i64 0, .int .i64 0, .bool false, .int .i64 0, .int .i64 0], .slice none 0 0, .slice none 0 0].toList 8 = some ([.agg [.agg [.lit (.int .i64 0), .lit (.int .i64 0)], .agg [.lit (.int .i64 0), .lit (.int .i64 0)], .lit (.bool false), .agg [.lit (.int .i64 0), .lit (.int .i64 0)]], .nil, .nil], [], places) :=
 ⟨[], by kernel_rfl⟩
theorem lifted (os : Os) (started : os.Started) (H : Type) (enc : TypeId × Value → H) (F : Stop.Interp) :
 ReturnsInHanded {} Tryz.checked os 3 .any ((OpenSpec.ofChange Rows.trackTellsSpec).preRow enc Tryz.prog Tryz.f3 Rows.trackTellsRow.domain false Rows.trackTellsRow.laid) (((OpenSpec.ofChange Rows.trackTellsSpec).at F).post enc Tryz.prog Tryz.f3 false true false false) := by
 obtain ⟨places, hx⟩ := reads os enc
 refine returnsInHanded_of_row (C := Tryz.checked) (s := OpenSpec.ofChange Rows.trackTellsSpec) own started (by kernel_rfl) Tryz.func3
  (witness_row_at (enc := enc) (C := Tryz.checked) false (laidWorld os) #[.agg #[.int .i64 0, .int .i64 0, .int .i64 0, .int .i64 0, .bool false, .int .i64 0, .int .i64 0], .slice none 0 0, .slice none 0 0] rfl (by kernel_rfl) (by kernel_rfl) (by kernel_rfl)
   (OpenSpec.preRow_of_cond 8 hx (by kernel_rfl) (fun k hk => by cases hk) (by kernel_rfl) (laid_met os))) ?_
 intro W base args ds gs before hval hW _ _ _ hL _ _
 exact contract H enc W base args ds gs before hval hW hL
theorem said : Rows.TrackTellsSaid :=
 OpenClaim.holds_of_cond 3 Tryz.f3 rfl rfl rfl rfl rfl rfl rfl ⟨rfl, rfl, rfl, rfl, rfl⟩ rfl rfl rfl rfl rfl (by kernel_rfl) Tryz.func3 (by kernel_rfl)
  (of_decide_eq_true (by kernel_rfl)) (by unfold Func.isWrapper; first | (rw [if_pos (by decide +kernel)]; kernel_rfl) | (rw [if_neg (by decide +kernel)]; exact ⟨rfl, rfl⟩))
  (fun os started H enc _ F => by rw [OpenClaim.pre_eq_preRow]; exact lifted os started H enc F)
theorem plain (f : FuncId) (fn : Func) (hf : Tryz.pinned.checked.prog.funcNamed "parterre/parterrelaw06.TrackTells" = some f) (hfn : Tryz.pinned.checked.prog.funcs[f]? = some fn) :
 true = Tryz.pinned.checked.prog.looks [] ∧ ∀ (j : Nat) t, fn.params[j]? = some t → Tryz.pinned.checked.prog.wantsStandIn t = false := by
 obtain rfl : f = 3 := Option.some.inj ((show Tryz.prog.funcNamed "parterre/parterrelaw06.TrackTells" = some 3 by kernel_rfl).symm.trans hf) |>.symm
 obtain rfl : fn = Tryz.f3 := (Option.some.inj (Tryz.func3.symm.trans hfn)).symm
 refine ⟨by kernel_rfl, fun j t ht => ?_⟩
 rw [Tryz.params3] at ht
 have hm := Array.mem_of_getElem? ht
 simp only [List.mem_toArray, List.mem_cons, List.not_mem_nil, or_false] at hm
 rcases hm with rfl | rfl | rfl
 all_goals first
  | exact (show Tryz.prog.wantsStandIn 26 = false by kernel_rfl)
  | exact (show Tryz.prog.wantsStandIn 25 = false by kernel_rfl)
theorem card : Rows.TrackTellsCardSaid :=
 Claim7.holds_tied_plain_at .later [] _ _ _ _ said (fun _ h => by cases h) (by kernel_rfl) (fun _ h => by cases h) trackTells_row_tie rfl ⟨rfl, rfl⟩ (by kernel_rfl) rfl plain (by kernel_rfl)
end Go.Proofs.YtlhajccbfapieaaGreatDoor.trackTells
