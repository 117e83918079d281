/- PROVED HERE: for every list of words, every place and everything allowed: what was read is read as it was, with more allowed; the call returns true, and each argument reads behind the call as it read before (the law ValueMore of layer 5). Conditions: those of the row: package-level variables start as the program's text lays them. -/
import Derived.Test.YtapnjabhcdlhbaaDoorCards
import Derived.Test.YtapnjabhcdlhbaaDoorTie
import Derived.WalkKit
import Derived.ProofKit
import Derived.OpenShut
import Derived.Deep.DeepHandedRow
import Derived.Lib.LaidTab
import Derived.Test.YtapnjabhcdlhbaaDoorAbLaw
import Derived.Test.YtapnjabhcdlhbaaDoorAbKnown
import Derived.Test.YtapnjabhcdlhbaaDoorC05d
namespace Go.Proofs.YtapnjabhcdlhbaaDoor.valueMore
open Go.ChangeShapes Go.WideShapes Go.ChangeAt Go.RowKit Go.Proofs.YtapnjabhcdlhbaaDoor.Ab
set_option linter.unusedSimpArgs false
set_option maxRecDepth 100000
set_option linter.unusedVariables false

theorem own : ownKnob Tryd.prog.godebug = none := by kernel_rfl
/-- A row of a slice of words. -/
theorem tok_of {row : List DV} (h : Shape Tryd.prog 5 25 row) : ∃ t : Ab.Tok, row = tokRow t := by
  simp only [Shape, Tryd.underlying25, Tryd.underlying3, Tryd.underlying9, ShapeL] at h
  obtain ⟨a, b, rfl, ⟨k, rfl, _⟩, c, d, rfl, ⟨n, rfl, _⟩, e, f, rfl, ⟨s, rfl, _⟩, g, i, rfl, ⟨u, rfl, _⟩, rfl⟩ := h
  exact ⟨Ab.Tok.mk k n s u, rfl⟩
theorem toks_of : ∀ {rows : List (List DV)}, (∀ row ∈ rows, Shape Tryd.prog 5 25 row) → ∃ l : List Ab.Tok, rows = l.map tokRow
  | [], _ => ⟨[], rfl⟩
  | row :: rows, h => by
    obtain ⟨t, rfl⟩ := tok_of (h row (List.mem_cons_self ..))
    obtain ⟨l, rfl⟩ := toks_of fun r hr => h r (List.mem_cons_of_mem _ hr)
    exact ⟨t :: l, rfl⟩
theorem cellsTok : Tryd.prog.cellsOf 25 = 4 := by kernel_rfl
theorem slice_of {xs : List DV} (h : Shape Tryd.prog 6 22 xs) : ∃ (l : List Ab.Tok) (v : DV), toksA l v ∧ xs = [v] := by
  rw [Shape, Tryd.underlying22] at h
  rcases h with rfl | ⟨rows, rfl, hr, _⟩
  · exact ⟨[], .nilsl, .inl ⟨rfl, rfl⟩, rfl⟩
  · obtain ⟨l, rfl⟩ := toks_of hr
    rw [cellsTok]
    exact ⟨l, _, .inr rfl, rfl⟩
theorem int_of {xs : List DV} (h : Shape Tryd.prog 6 3 xs) : ∃ n : Int, xs = [.int .i64 n] := by
  rw [Shape, Tryd.underlying3] at h
  obtain ⟨n, rfl, _⟩ := h
  exact ⟨n, rfl⟩
theorem run_ok : ∀ xss, ShapeAll Tryd.prog 6 (Tryd.f3).params.toList xss → Pur F0 3 (argsA Tryd.prog (Tryd.f3).params.toList xss) [] .no (.ret (B true)) .no := by
  intro xss h
  rw [Tryd.params3] at h ⊢
  obtain ⟨x0, r0, rfl, h0, x1, r1, rfl, h1, x2, r2, rfl, h2, x3, r3, rfl, h3, rfl⟩ := h
  obtain ⟨l, v, hv, rfl⟩ := slice_of h0
  obtain ⟨a, rfl⟩ := int_of h1
  obtain ⟨b, rfl⟩ := int_of h2
  obtain ⟨c, rfl⟩ := int_of h3
  have e1 : ∀ x, argA Tryd.prog 22 [x] = .d x := fun x => by simp only [argA, Tryd.underlying22]
  have e2 : ∀ x, argA Tryd.prog 3 [x] = .d x := fun x => by simp only [argA, Tryd.underlying3]
  simp only [argsA, e1, e2]
  exact law_ok l v hv a b c

theorem contract (H : Type) (enc : TypeId × Value → H) (W : World) (base : Nat) (args : Array Value) (ds gs : List (DataW H)) (before : List MemPlace)
    (hval : ∀ (j : Nat) t v, (Tryd.f3).params[j]? = some t → args[j]? = some v → Value.okWide Tryd.prog W .any base t v)
    (hW : DataW.Whole enc Tryd.prog (Tryd.f3).params.toList Rows.valueMoreSpec.vars false W args.toList ds gs before) :
    Calls Tryd.prog 3 args W fun e W' => ∃ v, e = .returned v ∧ Rows.valueMoreSpec.post enc Tryd.prog Tryd.f3 false true false false W args v W' := by
  have hb : (Tryd.f3).body.isSome = true := by kernel_rfl
  obtain ⟨body, hbody⟩ := Option.isSome_iff_exists.1 hb
  refine law_calls (cfg := cfg0 Tryd.prog) (F := F0) (d := 6) (tb := 4) F0_ok Tryd.func3 hbody (by kernel_rfl) (fun g row h => by cases h) (by kernel_rfl) (by kernel_rfl) (by kernel_rfl) (by kernel_rfl) (by kernel_rfl) Tryd.underlying4 rfl ?_ run_ok hval hW
  intro l hl
  rw [Tryd.params3] at hl
  match l, hl with
  | [d1, d2, d3, d4], _ => exact ⟨rfl, rfl, rfl⟩

/-- A WORLD FOR THE WITNESS: the settled one, the tables holding what the program's text lays. -/
def leaf : DataW Unit → Value
  | .lit (.int k n) => .int k n
  | _ => .bool false
def leaves : DataW Unit → List Value
  | .agg l => l.map leaf
  | _ => []
def pairs : DataW Unit → List Value
  | .agg l => (l.map leaves).flatten
  | _ => []
noncomputable def layAt (W : World) (i : Nat) (l : List Value) : World :=
  { W with heap := W.heap.modify i fun
      | .cells _ t frozen => .cells l.toArray t frozen
      | o => o }
noncomputable def laidWorld (os : Os) : World :=
  layAt (layAt (World.holding Tryd.prog os ⟨#[], #[], []⟩) 1 (leaves Go.Pinned.utf8First)) 2 (pairs (Rows.laid_unicode_utf8_acceptRanges (H := Unit)))
theorem laid_met (os : Os) : laidMet Tryd.prog Rows.valueMoreRow.laid ((laidWorld os).forCall (fun _ _ => 0) ⟨#[], #[.slice none 0 0, .int .i64 0, .int .i64 0, .int .i64 0], []⟩).memory :=
  laidMet_of_run' 8 (by kernel_rfl) (by kernel_rfl)
theorem reads (os : Os) {H : Type} (enc : TypeId × Value → H) : ∃ places, DataW.whole enc Tryd.prog ((laidWorld os).forCall (fun _ _ => 0) ⟨#[], #[.slice none 0 0, .int .i64 0, .int .i64 0, .int .i64 0], []⟩).memory (Tryd.f3).params.toList Rows.valueMoreSpec.vars false #[Value.slice none 0 0, .int .i64 0, .int .i64 0, .int .i64 0].toList 8 = some ([.nil, .lit (.int .i64 0), .lit (.int .i64 0), .lit (.int .i64 0)], [], places) :=
  ⟨[], by kernel_rfl⟩
theorem lifted (os : Os) (started : os.Started) (H : Type) (enc : TypeId × Value → H) (F : Stop.Interp) :
    ReturnsInHanded {} Tryd.checked os 3 .any ((OpenSpec.ofChange Rows.valueMoreSpec).preRow enc Tryd.prog Tryd.f3 Rows.valueMoreRow.domain false Rows.valueMoreRow.laid) (((OpenSpec.ofChange Rows.valueMoreSpec).at F).post enc Tryd.prog Tryd.f3 false true false false) := by
  obtain ⟨places, hx⟩ := reads os enc
  refine returnsInHanded_of_row (C := Tryd.checked) (s := OpenSpec.ofChange Rows.valueMoreSpec) own started (by kernel_rfl) Tryd.func3
    (witness_row_at (enc := enc) (C := Tryd.checked) false (laidWorld os) #[.slice none 0 0, .int .i64 0, .int .i64 0, .int .i64 0] rfl (by kernel_rfl) (by kernel_rfl) (by kernel_rfl)
      (OpenSpec.preRow_of_cond 8 hx (by kernel_rfl) (fun k hk => by cases hk) (by kernel_rfl) (laid_met os))) ?_
  intro W base args ds gs before hval hW _ _ _ hL _ _
  exact contract H enc W base args ds gs before hval hW
theorem said : Rows.ValueMoreSaid :=
  OpenClaim.holds_of_cond 3 Tryd.f3 rfl rfl rfl rfl rfl rfl rfl ⟨rfl, rfl, rfl, rfl, rfl⟩ rfl rfl rfl rfl rfl (by kernel_rfl) Tryd.func3 (by kernel_rfl)
    (of_decide_eq_true (by kernel_rfl)) (by unfold Func.isWrapper; first | (rw [if_pos (by decide +kernel)]; kernel_rfl) | (rw [if_neg (by decide +kernel)]; exact ⟨rfl, rfl⟩))
    (fun os started H enc _ F => by rw [OpenClaim.pre_eq_preRow]; exact lifted os started H enc F)
/-- No parameter wants a stand-in; the program's own looks are off: what the card asks. -/
theorem plain (f : FuncId) (fn : Func) (hf : Tryd.pinned.checked.prog.funcNamed "parterre/parterrelaw05.ValueMore" = some f) (hfn : Tryd.pinned.checked.prog.funcs[f]? = some fn) :
    true = Tryd.pinned.checked.prog.looks [] ∧ ∀ (j : Nat) t, fn.params[j]? = some t → Tryd.pinned.checked.prog.wantsStandIn t = false := by
  obtain rfl : f = 3 := Option.some.inj ((show Tryd.prog.funcNamed "parterre/parterrelaw05.ValueMore" = some 3 by kernel_rfl).symm.trans hf) |>.symm
  obtain rfl : fn = Tryd.f3 := (Option.some.inj (Tryd.func3.symm.trans hfn)).symm
  refine ⟨by kernel_rfl, fun j t ht => ?_⟩
  rw [Tryd.params3] at ht
  have hm := Array.mem_of_getElem? ht
  simp only [List.mem_toArray, List.mem_cons, List.not_mem_nil, or_false] at hm
  rcases hm with rfl | rfl | rfl | rfl
  · exact (show Tryd.prog.wantsStandIn 22 = false by kernel_rfl)
  all_goals exact (show Tryd.prog.wantsStandIn 3 = false by kernel_rfl)
theorem card : Rows.ValueMoreCardSaid :=
  Claim7.holds_tied_plain_at .later [] _ _ _ _ said (fun _ h => by cases h) (by kernel_rfl) (fun _ h => by cases h) valueMore_row_tie rfl ⟨rfl, rfl⟩ (by kernel_rfl) rfl plain (by kernel_rfl)
end Go.Proofs.YtapnjabhcdlhbaaDoor.valueMore
