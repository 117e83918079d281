/- What is known without its text, held against the model; the program's functions are in order. -/
import Derived.Test.YtapnjabhcdlhbaaDoorAbCfg
import Derived.Test.YtapnjabhcdlhbaaDoorAbJoin
import Derived.Lib.Builder
namespace Go.Proofs.YtapnjabhcdlhbaaDoor.Ab
open Go
set_option linter.unusedVariables false

theorem known_of {P : Program} {cfg : Cfg} {f : Nat} {fn : Func} {g : List AV → Option AV} {e : Array Value → Sem Value} (hf : P.funcs[f]? = some fn) (hname : (fn.name == "runtime.NumGoroutine") = false) (hb : fn.body.isNone = true)
    (hn : Extern.findNext fn = none) (he : Extern.find fn = some e)
    (h : ∀ (c : Cx) (vals : Array Value) (args : List AV) (v : AV), relL c args vals.toList → g args = some v → ∃ u, (e vals).run P c.w = .ok u c.w ∧ relA c v u) : KnownOk P cfg f g := by
  intro c vals args cs v ok gl hrel hg
  obtain ⟨u, h1, h2⟩ := h c vals args v hrel hg
  refine ⟨c, .returned u, ok, Goes.refl c, rfl, ⟨u, rfl, h2⟩, .inr ⟨rfl, rfl, u, rfl, ?_⟩⟩
  rw [run_callFunc_extern hf hname hb hn he, h1]
  rfl
theorem noEscape_known : KnownOk Tryd.prog (cfg0 Tryd.prog) 82 kNoEscape := by
  refine known_of (e := Extern.AbiNoEscape.same) Tryd.func82 (by kernel_rfl) (by kernel_rfl) (by kernel_rfl) (by kernel_rfl) fun c vals args v hrel hg => ?_
  unfold kNoEscape at hg
  split at hg
  · rename_i x
    obtain ⟨u, e, h1⟩ := rel1 hrel
    obtain rfl : vals = #[u] := by rw [← Array.toArray_toList (xs := vals), e]
    exact ⟨u, Lib.run_noEscape c.w u, by rw [force_eq hg]; exact h1⟩
  · cases hg
theorem indexByte_known : KnownOk Tryd.prog (cfg0 Tryd.prog) 79 kIndexByte := by
  refine known_of (e := Extern.BytealgIndexByte.indexByte) Tryd.func79 (by kernel_rfl) (by kernel_rfl) (by kernel_rfl) (by kernel_rfl) fun c vals args v hrel hg => ?_
  unfold kIndexByte at hg
  split at hg
  · rename_i s n
    cases hg
    obtain ⟨u, t, e, h1, h2⟩ := rel2 hrel
    obtain rfl : vals = #[u, t] := by rw [← Array.toArray_toList (xs := vals), e]
    simp only [relA, relD] at h1 h2
    subst h1 h2
    refine ⟨_, Lib.run_indexByteString _ _ _, ?_⟩
    simp only [relA, relD]
  · cases hg
theorem F0_ok : FOk Tryd.prog (cfg0 Tryd.prog) F0 := by
  refine theF_ok (by kernel_rfl) fun f g h => ?_
  unfold knownF at h
  split at h
  · rename_i hb
    cases h
    cases Nat.eq_of_beq_eq_true hb
    exact noEscape_known
  · split at h
    · rename_i hb
      cases h
      cases Nat.eq_of_beq_eq_true hb
      exact indexByte_known
    · cases h
end Go.Proofs.YtapnjabhcdlhbaaDoor.Ab
