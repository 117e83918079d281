/- All functions of a program, compiled; what is known of others. -/
import Derived.Test.YtapnjabhcdlhbaaGreatDoorAbRun5
import Derived.Test.YtapnjabhcdlhbaaGreatDoorAbVr
namespace Go.Proofs.YtapnjabhcdlhbaaGreatDoor.Ab
open Go
set_option linter.unusedVariables false

def resL : List RV → List Nat
  | [] => []
  | .tmp t :: l => insL t (resL l)
  | .cell a _ :: l => insL a (resL l)
def compB (P : Program) (cfg : Cfg) (fn : Func) : Option CFn :=
  match fn.body with
  | some c => match compC P cfg fn.ntmps c, compRes P fn.ntmps fn.results.toList, fn.name == "runtime.NumGoroutine" with
    | some b, some r, false => some ⟨(annot (resL r) b (resL r) []).1, r⟩
    | _, _, _ => none
  | none => none
def compF (P : Program) (cfg : Cfg) (f : Nat) : Option CFn :=
  match P.funcs[f]? with
  | some fn => compB P cfg fn
  | none => none
def theF (P : Program) (cfg : Cfg) (known : Nat → Option (List AV → Option AV)) (f : Nat) : Option Fn :=
  match known f with
  | some g => some (.known g)
  | none => match compF P cfg f with
    | some c => some (.code c)
    | none => none
theorem theF_ok {P : Program} {cfg : Cfg} {known : Nat → Option (List AV → Option AV)} (hmix : P.follows .mixedOrders = true) (hk : ∀ f g, known f = some g → KnownOk P cfg f g) : FOk P cfg (theF P cfg known) where
  mix := hmix
  code f cf h := by
    unfold theF at h
    split at h
    · cases h
    · split at h
      · rename_i h1
        cases h
        unfold compF at h1
        split at h1
        · rename_i fn hf
          unfold compB at h1
          split at h1
          · rename_i c hc
            split at h1
            · rename_i b r h2 h3 h4
              cases h1
              exact ⟨fn, c, hf, hc, annot_comp (comp_of _ _ h2) _ _, h3, h4⟩
            · cases h1
          · cases h1
        · cases h1
      · cases h
  known f g h := by
    unfold theF at h
    split at h
    · rename_i g' h1
      cases h
      exact hk f _ h1
    · split at h
      · cases h
      · cases h
theorem theF_code {P : Program} {cfg : Cfg} {known : Nat → Option (List AV → Option AV)} {f : Nat} {fn : Func} {c : CFn} (hk : known f = none) (hf : P.funcs[f]? = some fn) (hc : compB P cfg fn = some c) : theF P cfg known f = some (.code c) := by
  unfold theF compF
  rw [hk, hf]
  simp only [hc]
end Go.Proofs.YtapnjabhcdlhbaaGreatDoor.Ab
