/- PROVED HERE: the law BoxBack of layer 09: for every input the call returns true, and each argument reads behind the call as it read before. Conditions: those of the row: package-level variables start as the program's text lays them. -/
import Derived.Test.YtapnjabhcdlhbaaGreatDoorCards
import Derived.Test.YtapnjabhcdlhbaaGreatDoorTie
import Derived.WalkKit
import Derived.ProofKit
import Derived.OpenShut
import Derived.Deep.DeepHandedRow
import Derived.Lib.LaidTab
import Derived.Test.YtapnjabhcdlhbaaGreatDoorAbTy
import Derived.Test.YtapnjabhcdlhbaaGreatDoorM9E
namespace Go.Proofs.YtapnjabhcdlhbaaGreatDoor.boxBack
open Go.ChangeShapes Go.WideShapes Go.ChangeAt Go.RowKit Go.Proofs.YtapnjabhcdlhbaaGreatDoor.Ab
set_option linter.unusedSimpArgs false
set_option maxRecDepth 100000
set_option linter.unusedVariables false

theorem own : ownKnob Tryz.prog.godebug = none := by kernel_rfl
theorem run_ok : ∀ xss, ShapeAll Tryz.prog 6 (Tryz.f9).params.toList xss → Pur F0 9 (argsA Tryz.prog (Tryz.f9).params.toList xss) [] .no (.ret (B true)) .no := by
  intro xss h
  rw [Tryz.params9] at h ⊢
  obtain ⟨x0, r0, rfl, h0, x1, r1, rfl, h1, x2, r2, rfl, h2, x3, r3, rfl, h3, x4, r4, rfl, h4, x5, r5, rfl, h5, rfl⟩ := h
  obtain ⟨a0a, a0b, a0c, a0d, a0e, a0f, a0g, a0h, rfl⟩ := len4_of h0
  obtain ⟨a1k, a1n, rfl⟩ := len_of h1
  obtain ⟨a2k, a2n, rfl⟩ := len_of h2
  obtain ⟨a3, rfl, a3w⟩ := int_of h3
  obtain ⟨a4, rfl, a4w⟩ := int_of h4
  obtain ⟨a5l, a5v, a5h, rfl⟩ := boxes_of h5
  simp only [argsA, arg_boxes, arg_int, arg_len, arg_len4, List.map_cons, List.map_nil]
  exact boxBack_ok a0a a0b a0c a0d a0e a0f a0g a0h a1k a1n a2k a2n a3 a4 a5l a5v a5h
theorem contract (H : Type) (enc : TypeId × Value → H) (W : World) (base : Nat) (args : Array Value) (ds gs : List (DataW H)) (before : List MemPlace)
    (hval : ∀ (j : Nat) t v, (Tryz.f9).params[j]? = some t → args[j]? = some v → Value.okWide Tryz.prog W .any base t v)
    (hW : DataW.Whole enc Tryz.prog (Tryz.f9).params.toList Rows.boxBackSpec.vars false W args.toList ds gs before) (hL : laidMet Tryz.prog Rows.boxBackRow.laid W) :
    Calls Tryz.prog 9 args W fun e W' => ∃ v, e = .returned v ∧ Rows.boxBackSpec.post enc Tryz.prog Tryz.f9 false true false false W args v W' := by
  have hb : (Tryz.f9).body.isSome = true := by kernel_rfl
  obtain ⟨body, hbody⟩ := Option.isSome_iff_exists.1 hb
  have hT : Lib.TabIs Tryz.prog W "internal/strconv.uint64pow10" .u64 Lib.pow10Tab := Lib.tabIs_of_head (rest := [("unicode/utf8.acceptRanges", Rows.laid_unicode_utf8_acceptRanges), ("unicode/utf8.first", Rows.laid_unicode_utf8_first)]) (g := 3) (by kernel_rfl) rfl (t := 238) (e := 204) (n := 20) (by kernel_rfl) (by kernel_rfl) (by kernel_rfl) (by kernel_rfl) (laid_tail (laid_tail hL))
  refine law_calls (cfg := cfg0 Tryz.prog) (F := F0) (d := 6) (tb := 4) F0_ok Tryz.func9 hbody (by kernel_rfl) (glob_ok hT) (by kernel_rfl) (by kernel_rfl) (by kernel_rfl) (by kernel_rfl) (by kernel_rfl) Tryz.underlying4 rfl ?_ run_ok hval hW
  intro l hl
  rw [Tryz.params9] at hl
  match l, hl with
  | [d1, d2, d3, d4, d5, d6], _ => exact ⟨rfl, rfl, rfl⟩

noncomputable def laidWorld (os : Os) : World :=
  layAt (layAt (layAt (layAt (layAt (World.holding Tryz.prog os ⟨#[], #[], []⟩) 6 (leaves (Rows.laid_math_bits_deBruijn32tab (H := Unit)))) 7 (leaves (Rows.laid_math_bits_deBruijn64tab (H := Unit)))) 3 (leaves (Rows.laid_internal_strconv_uint64pow10 (H := Unit)))) 5 (pairs (Rows.laid_unicode_utf8_acceptRanges (H := Unit)))) 4 (leaves Go.Pinned.utf8First)
theorem laid_met (os : Os) : laidMet Tryz.prog Rows.boxBackRow.laid ((laidWorld os).forCall (fun _ _ => 0) ⟨#[], #[Value.agg #[.int .i64 0, .int .i64 0, .int .i64 0, .int .i64 0, .int .i64 0, .int .i64 0, .int .i64 0, .int .i64 0], .agg #[.int .i64 0, .int .i64 0], .agg #[.int .i64 0, .int .i64 0], .int .i64 0, .int .i64 0, .slice none 0 0], []⟩).memory :=
  laidMet_of_run' 8 (by kernel_rfl) (by kernel_rfl)
theorem reads (os : Os) {H : Type} (enc : TypeId × Value → H) : ∃ places, DataW.whole enc Tryz.prog ((laidWorld os).forCall (fun _ _ => 0) ⟨#[], #[Value.agg #[.int .i64 0, .int .i64 0, .int .i64 0, .int .i64 0, .int .i64 0, .int .i64 0, .int .i64 0, .int .i64 0], .agg #[.int .i64 0, .int .i64 0], .agg #[.int .i64 0, .int .i64 0], .int .i64 0, .int .i64 0, .slice none 0 0], []⟩).memory (Tryz.f9).params.toList Rows.boxBackSpec.vars false #[Value.agg #[.int .i64 0, .int .i64 0, .int .i64 0, .int .i64 0, .int .i64 0, .int .i64 0, .int .i64 0, .int .i64 0], .agg #[.int .i64 0, .int .i64 0], .agg #[.int .i64 0, .int .i64 0], .int .i64 0, .int .i64 0, .slice none 0 0].toList 8 = some ([.agg [.agg [.lit (.int .i64 0), .lit (.int .i64 0)], .agg [.lit (.int .i64 0), .lit (.int .i64 0)], .agg [.lit (.int .i64 0), .lit (.int .i64 0)], .agg [.lit (.int .i64 0), .lit (.int .i64 0)]], .agg [.lit (.int .i64 0), .lit (.int .i64 0)], .agg [.lit (.int .i64 0), .lit (.int .i64 0)], .lit (.int .i64 0), .lit (.int .i64 0), .nil], [], places) :=
  ⟨[], by kernel_rfl⟩
theorem lifted (os : Os) (started : os.Started) (H : Type) (enc : TypeId × Value → H) (F : Stop.Interp) :
    ReturnsInHanded {} Tryz.checked os 9 .any ((OpenSpec.ofChange Rows.boxBackSpec).preRow enc Tryz.prog Tryz.f9 Rows.boxBackRow.domain false Rows.boxBackRow.laid) (((OpenSpec.ofChange Rows.boxBackSpec).at F).post enc Tryz.prog Tryz.f9 false true false false) := by
  obtain ⟨places, hx⟩ := reads os enc
  refine returnsInHanded_of_row (C := Tryz.checked) (s := OpenSpec.ofChange Rows.boxBackSpec) own started (by kernel_rfl) Tryz.func9
    (witness_row_at (enc := enc) (C := Tryz.checked) false (laidWorld os) #[.agg #[.int .i64 0, .int .i64 0, .int .i64 0, .int .i64 0, .int .i64 0, .int .i64 0, .int .i64 0, .int .i64 0], .agg #[.int .i64 0, .int .i64 0], .agg #[.int .i64 0, .int .i64 0], .int .i64 0, .int .i64 0, .slice none 0 0] rfl (by kernel_rfl) (by kernel_rfl) (by kernel_rfl)
      (OpenSpec.preRow_of_cond 8 hx (by kernel_rfl) (fun k hk => by cases hk) (by kernel_rfl) (laid_met os))) ?_
  intro W base args ds gs before hval hW _ _ _ hL _ _
  exact contract H enc W base args ds gs before hval hW hL
theorem said : Rows.BoxBackSaid :=
  OpenClaim.holds_of_cond 9 Tryz.f9 rfl rfl rfl rfl rfl rfl rfl ⟨rfl, rfl, rfl, rfl, rfl⟩ rfl rfl rfl rfl rfl (by kernel_rfl) Tryz.func9 (by kernel_rfl)
    (of_decide_eq_true (by kernel_rfl)) (by unfold Func.isWrapper; first | (rw [if_pos (by decide +kernel)]; kernel_rfl) | (rw [if_neg (by decide +kernel)]; exact ⟨rfl, rfl⟩))
    (fun os started H enc _ F => by rw [OpenClaim.pre_eq_preRow]; exact lifted os started H enc F)
/-- No parameter wants a stand-in; the program's own looks are off: what the card asks. -/
theorem plain (f : FuncId) (fn : Func) (hf : Tryz.pinned.checked.prog.funcNamed "parterre/parterrelaw09.BoxBack" = some f) (hfn : Tryz.pinned.checked.prog.funcs[f]? = some fn) :
    true = Tryz.pinned.checked.prog.looks [] ∧ ∀ (j : Nat) t, fn.params[j]? = some t → Tryz.pinned.checked.prog.wantsStandIn t = false := by
  obtain rfl : f = 9 := Option.some.inj ((show Tryz.prog.funcNamed "parterre/parterrelaw09.BoxBack" = some 9 by kernel_rfl).symm.trans hf) |>.symm
  obtain rfl : fn = Tryz.f9 := (Option.some.inj (Tryz.func9.symm.trans hfn)).symm
  refine ⟨by kernel_rfl, fun j t ht => ?_⟩
  rw [Tryz.params9] at ht
  have hm := Array.mem_of_getElem? ht
  simp only [List.mem_toArray, List.mem_cons, List.not_mem_nil, or_false] at hm
  rcases hm with rfl | rfl | rfl | rfl | rfl | rfl
  all_goals first
    | exact (show Tryz.prog.wantsStandIn 27 = false by kernel_rfl)
    | exact (show Tryz.prog.wantsStandIn 72 = false by kernel_rfl)
    | exact (show Tryz.prog.wantsStandIn 3 = false by kernel_rfl)
    | exact (show Tryz.prog.wantsStandIn 26 = false by kernel_rfl)
theorem card : Rows.BoxBackCardSaid :=
  Claim7.holds_tied_plain_at .later [] _ _ _ _ said (fun _ h => by cases h) (by kernel_rfl) (fun _ h => by cases h) boxBack_row_tie rfl ⟨rfl, rfl⟩ (by kernel_rfl) rfl plain (by kernel_rfl)
end Go.Proofs.YtapnjabhcdlhbaaGreatDoor.boxBack
