/- All functions of a program, compiled; what is known of others. -/
import Derived.Test.YtlhajccbfapieaaGreatDoorAbRun5
import Derived.Test.YtlhajccbfapieaaGreatDoorAbVr
namespace Go.Proofs.YtlhajccbfapieaaGreatDoor.Ab
open Go
set_option linter.unusedVariables false
def resL : List RV → List Nat
 | [] => []
 | .tmp t :: l => insL t (resL l)
 | .cell a _ :: l => insL a (resL l)
def compB (P : Program) (cfg : Cfg) (num : Nat) (site : Option Site) (fn : Func) : Option CFn :=
 match fn.body with
 | some c => match compC P cfg num site fn.ntmps c, compRes P fn.ntmps fn.results.toList, fn.name == "runtime.NumGoroutine" with
  | some b, some r, false => some ⟨(annot (resL r) b (resL r) []).1, r⟩
  | _, _, _ => none
 | none => none
def compF (P : Program) (cfg : Cfg) (f : Nat) : Option CFn :=
 match P.funcs[f]? with
 | some fn => compB P cfg f (siteF fn) fn
 | none => none
def compRd (P : Program) (cfg : Cfg) (s : Site) : Option RFn :=
 match compC P cfg 0 none s.n s.assign, compC P cfg 0 none s.n s.body, nodupB s.params.toList with
 | some a, some b, true => match annot [] b [] [] with
  | (b, l) => some ⟨s.keep, s.params.toList, (annot [] a l []).1, b⟩
 | _, _, _ => none
def roundF (P : Program) (cfg : Cfg) (num : Nat) : Option RFn :=
 match siteOf P num with
 | some s => compRd P cfg s
 | none => none
def findN (f : Nat) : List Nat → Option Nat
 | [] => none
 | n :: l => match Nat.beq f (1048576 + n) with
  | true => some n
  | false => findN f l
theorem findN_eq {f : Nat} : ∀ {l : List Nat} {n : Nat}, findN f l = some n → f = 1048576 + n
 | [], n, h => by cases h
 | m :: l, n, h => by
  simp only [findN] at h
  split at h
  · rename_i hb; cases h; exact Nat.eq_of_beq_eq_true hb
  · exact findN_eq h
def theF (P : Program) (cfg : Cfg) (known : Nat → Option (List AV → Option AV)) (sites : List Nat) (f : Nat) : Option Fn :=
 match findN f sites with
 | some n => match roundF P cfg n with
  | some c => some (.round c)
  | none => none
 | none => match Nat.blt f 1048576 with
  | true => match known f with
   | some g => some (.known g)
   | none => match compF P cfg f with
    | some c => some (.code c)
    | none => none
  | false => none
theorem allR_site {fn : Func} {c : Code} (hb : fn.body = some c) : AllR (siteF fn) c := by
 intro s hs q hq
 unfold siteF at hs
 simp only [hb] at hs
 split at hs
 · rename_i ps a b h1
   cases hs
   rw [h1] at hq
   simp only [List.mem_singleton] at hq
   subst hq
   exact ⟨rfl, rfl, rfl⟩
 · cases hs
section
variable {P : Program} {cfg : Cfg} {known : Nat → Option (List AV → Option AV)}
theorem theF_cases {sites : List Nat} {f : Nat} {x : Fn} (h : theF P cfg known sites f = some x) :
 (Nat.blt f 1048576 = true ∧ ((∃ g, known f = some g ∧ x = .known g) ∨ ∃ c, compF P cfg f = some c ∧ x = .code c)) ∨ (∃ n c, findN f sites = some n ∧ roundF P cfg n = some c ∧ x = .round c) := by
 unfold theF at h
 split at h
 · rename_i n hn
   split at h
   · rename_i c h1; cases h; exact .inr ⟨n, c, hn, h1, rfl⟩
   · cases h
 · split at h
   · rename_i hlt
     split at h
     · rename_i g h1; cases h; exact .inl ⟨hlt, .inl ⟨g, h1, rfl⟩⟩
     · split at h
       · rename_i c h1; cases h; exact .inl ⟨hlt, .inr ⟨c, h1, rfl⟩⟩
       · cases h
   · cases h
theorem compF_ok (hS : ∀ num, theSite num = siteOf P num) {f : Nat} {cf : CFn} (h1 : compF P cfg f = some cf) : CodeOk P cfg f cf := by
 unfold compF at h1
 split at h1
 · rename_i fn hf
   unfold compB at h1
   split at h1
   · rename_i c hc
     split at h1
     · rename_i b r h2 h3 h4
       cases h1
       refine ⟨fn, c, hf, hc, annot_comp (comp_of (fun s hs => ?_) _ _ (allR_site hc) h2) _ _, h3, h4⟩
       rw [hS]
       unfold siteOf
       rw [hf]
       exact hs
     · cases h1
   · cases h1
 · cases h1
theorem roundF_ok (hS : ∀ num, theSite num = siteOf P num) {f num : Nat} (hf : f = 1048576 + num) {rf : RFn} (h1 : roundF P cfg num = some rf) : RoundOk P cfg f rf := by
 unfold roundF at h1
 split at h1
 · rename_i s hs
   unfold compRd at h1
   split at h1
   · rename_i a b ha hb hn
     cases h1
     exact ⟨num, s, hf, (hS num).trans hs, rfl, rfl, hn, annot_comp (comp_of (num := 0) (site := none) (fun s hs => by cases hs) _ _ (fun s hs => by cases hs) ha) _ _, annot_comp (comp_of (num := 0) (site := none) (fun s hs => by cases hs) _ _ (fun s hs => by cases hs) hb) _ _⟩
   · cases h1
 · cases h1
theorem theF_ok {sites : List Nat} (hmix : P.follows .mixedOrders = true) (hS : ∀ num, theSite num = siteOf P num) (hk : ∀ f g, known f = some g → KnownOk P cfg f g) : FOk P cfg (theF P cfg known sites) where
 mix := hmix
 code f cf h := by
  rcases theF_cases h with ⟨hlt, ⟨g, _, e⟩ | ⟨c, h1, e⟩⟩ | ⟨_, c, _, _, e⟩
  · cases e
  · cases e; exact ⟨blt_lt hlt, compF_ok hS h1⟩
  · cases e
 round f rf h := by
  rcases theF_cases h with ⟨hlt, ⟨g, _, e⟩ | ⟨c, h1, e⟩⟩ | ⟨n, c, hn, h1, e⟩
  · cases e
  · cases e
  · cases e; exact roundF_ok hS (findN_eq hn) h1
 known f g h := by
  rcases theF_cases h with ⟨hlt, ⟨g', h1, e⟩ | ⟨c, h1, e⟩⟩ | ⟨_, c, _, _, e⟩
  · cases e; exact ⟨blt_lt hlt, hk f _ h1⟩
  · cases e
  · cases e
end
theorem theF_code {P : Program} {cfg : Cfg} {known : Nat → Option (List AV → Option AV)} {sites : List Nat} {f : Nat} {fn : Func} {c : CFn} (hs : findN f sites = none) (hlt : Nat.blt f 1048576 = true) (hk : known f = none) (hf : P.funcs[f]? = some fn)
 (hc : compB P cfg f (siteF fn) fn = some c) : theF P cfg known sites f = some (.code c) := by
 unfold theF compF
 rw [hs]
 simp only
 rw [hlt, hk, hf]
 simp only [hc]
end Go.Proofs.YtlhajccbfapieaaGreatDoor.Ab
