/- Regions that are run in any order: memory. -/
import Derived.Test.YtlhajccbfapieaaGreatDoorAbDraw2
namespace Go.Proofs.YtlhajccbfapieaaGreatDoor.Ab
open Go
set_option linter.unusedVariables false
set_option linter.unusedSimpArgs false
theorem snoc_get {α : Type} {l : List α} {a x : α} {i : Nat} (h : l[i]? = some x) : (l ++ [a])[i]? = some x := getElem?_snoc_lt h
theorem loadA_snoc {h : Heap} {o : Obj} {n : Option Nat} {a x : AV} (e : loadA h n a = some x) : loadA (h ++ [o]) n a = some x := by
 unfold loadA at e
 split at e
 · rename_i i c
   split at e
   · rename_i own cs hi
     simp only [loadA, snoc_get hi]; exact e
   · cases e
 · rename_i i g r c
   split at e
   · rename_i own nl g' sz rows hi
     simp only [loadA, snoc_get hi]; exact e
   · cases e
 · simp only [loadA]; exact e
 · cases e
section
variable {h : Heap} {o : Obj}
mutual
theorem deep_snoc : ∀ (x : AV) {r : AV × List Nat}, deep h x = some r → deep (h ++ [o]) x = some r
 | .d v, r, e => by simpa [deep] using e
 | .osl i g lo hi, r, e => by
  simp only [deep] at e ⊢
  split at e
  · rename_i own nl g' sz rows hi'
    simp only [snoc_get hi']; exact e
  · cases e
 | .agg cs, r, e => by
  simp only [deep, Option.map_eq_some_iff] at e ⊢
  obtain ⟨y, h1, h2⟩ := e
  exact ⟨y, deepL_snoc cs h1, h2⟩
 | .tup cs, r, e => by
  simp only [deep, Option.map_eq_some_iff] at e ⊢
  obtain ⟨y, h1, h2⟩ := e
  exact ⟨y, deepL_snoc cs h1, h2⟩
 | .ifc t v, r, e => by
  simp only [deep, Option.map_eq_some_iff] at e ⊢
  obtain ⟨y, h1, h2⟩ := e
  exact ⟨y, deep_snoc v h1, h2⟩
 | .ptr .., r, e => by simpa [deep] using e
 | .ept .., r, e => by simpa [deep] using e
 | .rpt .., r, e => by simpa [deep] using e
 | .fn .., r, e => by simpa [deep] using e
 | .yld .., r, e => by simpa [deep] using e
 | .junk, r, e => by simpa [deep] using e
theorem deepL_snoc : ∀ (xs : List AV) {r : List AV × List Nat}, deep.deepL h xs = some r → deep.deepL (h ++ [o]) xs = some r
 | [], r, e => by simpa [deep.deepL] using e
 | x :: l, r, e => by
  simp only [deep.deepL] at e ⊢
  split at e
  · rename_i y a l' b h1 h2
    cases e
    rw [deep_snoc x h1, deepL_snoc l h2]
  · cases e
end
end
theorem reach_snoc {h : Heap} {o : Obj} : ∀ (n : Nat) (todo acc : List Nat) {r : List Nat}, reach h n todo acc = some r → reach (h ++ [o]) n todo acc = some r
 | 0, [], acc, r, e => by simpa [reach] using e
 | n + 1, [], acc, r, e => by simpa [reach] using e
 | 0, _ :: _, _, r, e => by simp [reach] at e
 | n + 1, i :: todo, acc, r, e => by
  simp only [reach] at e ⊢
  split at e
  · rename_i hm; exact reach_snoc n todo acc e
  · rename_i hm
    split at e
    · rename_i ob hi
      simp only [snoc_get hi]; exact reach_snoc n _ _ e
    · cases e
theorem gather_snoc {h : Heap} {o : Obj} : ∀ (l : List Nat) {r : Heap}, gather h l = some r → gather (h ++ [o]) l = some r
 | [], r, e => by simpa [gather] using e
 | i :: l, r, e => by
  simp only [gather] at e ⊢
  split at e
  · rename_i ob r' h1 h2
    cases e
    rw [snoc_get h1, gather_snoc l h2]
  · cases e
theorem handRest_snoc {own : Own → Own} {h : Heap} {o : Obj} {args : List AV} {told : List Nat} {x : Handed} (e : handRest own h args told = some x) : handRest own (h ++ [o]) args told = some x := by
 unfold handRest at e ⊢
 split at e
 · rename_i fp hfp
   rw [reach_snoc _ _ _ hfp]
   split at e
   · rename_i g args' hd hg ha
     simp only [hd, gather_snoc _ hg, ha]
     exact e
   · cases e
 · cases e
theorem hand_snoc {h : Heap} {o : Obj} {args : List AV} {x : Handed} (e : hand .pure h args = some x) : hand .pure (h ++ [o]) args = some x := by
 simp only [hand] at e ⊢
 split at e
 · rename_i args' told hd
   rw [deepL_snoc args hd]
   exact handRest_snoc e
 · cases e
theorem back_pure {h : Heap} {x : Handed} {r0 q : CRes} (hq : back .pure h x r0 = some q) (ht : x.told = [] ∨ Ab.loose q.r.val = true) : q.h = h ∧ ∀ h', back .pure h' x r0 = some { q with h := h' } := by
 simp only [back] at hq ⊢
 cases hc : r0.r.map (deepOwn 0 r0.h) with
 | none => rw [hc] at hq; cases hq
 | some c =>
  rw [hc] at hq
  simp only at hq ⊢
  cases hl : Ab.loose c.val with
  | true =>
   rw [hl] at hq
   cases hq
   exact ⟨rfl, fun h' => rfl⟩
  | false =>
   rw [hl] at hq
   cases htl : x.told with
   | nil =>
    rw [htl] at hq
    cases hq
    exact ⟨rfl, fun h' => rfl⟩
   | cons i l =>
    rw [htl] at hq
    cases hq
    rcases ht with ht | ht
    · rw [htl] at ht; cases ht
    · simp only at ht; rw [hl] at ht; cases ht
theorem callM_true {X : CallF} {m : Mode} {f : Nat} {args : List AV} {h : Heap} {rc : Rec} {r : CRes} (e : callM X true m f args h rc = some r) :
 r.h = h ∧ ∀ o, callM X true m f args (h ++ [o]) rc = some { r with h := h ++ [o] } := by
 cases m with
 | drop => simp [callM] at e
 | opn => simp [callM] at e
 | pure =>
  simp only [callM] at e ⊢
  cases hx : hand .pure h args with
  | none => simp [hx] at e
  | some x =>
   simp only [hx] at e
   cases hl : rc.loose with
   | false => simp [hl] at e
   | true =>
    simp only [hl] at e
    cases hr0 : X f x.args x.h rc with
    | none => simp [hr0] at e
    | some r0 =>
     simp only [hr0] at e
     cases hb : back .pure h x r0 with
     | none => simp [hb] at e
     | some q =>
      simp only [hb] at e
      have ht : x.told = [] ∨ Ab.loose q.r.val = true := by
       cases hq : Ab.loose q.r.val with
       | true => exact .inr rfl
       | false =>
        cases htl : x.told with
        | nil => exact .inl rfl
        | cons i l => simp [htl, hq] at e
      have hqr : q = r := by
       split at e
       · cases e
       · exact Option.some.inj e
      subst hqr
      obtain ⟨a1, a2⟩ := back_pure hb ht
      refine ⟨a1, fun o => ?_⟩
      simp only [hand_snoc hx, hr0, a2]
      split
      · rename_i h1 h2
        rcases ht with ht | ht
        · rw [ht] at h1; cases h1
        · rw [ht] at h2; cases h2
      · rfl
section
variable {X : Ext} {x y : Ins} {vs : List AV} {h h' : Heap} {a : AV}
theorem eff_kind0 (hk : kindOf x.act = 0) (e : eff X x vs h = some (a, h')) : h' = h ∧ ∀ k, eff X x vs k = some (a, k) := by
 unfold eff at e
 split at e
 · rename_i b g ho
   obtain ⟨c, h1, h2⟩ := op_kind0 hk ho
   cases h1
   cases e
   exact ⟨rfl, fun k => by simp only [eff, h2 k]⟩
 · rename_i p m f args ho
   obtain ⟨c, h1, h2⟩ := op_kind0 hk ho
   cases h1
 · cases e
theorem eff_kind1 (hk : kindOf x.act = 1) (e : eff X x vs h = some (a, h')) : h' = h := by
 unfold eff at e
 generalize hact : x.act = act at hk e
 cases act <;> simp only [kindOf, reduceCtorEq, Nat.reduceEqDiff] at hk
 case bin op q =>
  split at e
  · rename_i b g ho
    match vs, ho with
    | [u, v], ho => simp only [opSem] at ho; obtain ⟨z, _, h1⟩ := val_eq ho; cases h1; cases e; rfl
    | [], ho => simp [opSem] at ho
    | [_], ho => simp [opSem] at ho
    | _ :: _ :: _ :: _, ho => simp [opSem] at ho
  · rename_i p m f args ho
    match vs, ho with
    | [u, v], ho => simp only [opSem] at ho; obtain ⟨z, _, h1⟩ := val_eq ho; cases h1
    | [], ho => simp [opSem] at ho
    | [_], ho => simp [opSem] at ho
    | _ :: _ :: _ :: _, ho => simp [opSem] at ho
  · cases e
 case call p =>
  have hp : p = true := by cases p <;> simp [kindOf] at hk ⊢
  subst hp
  split at e
  · rename_i b g ho
    cases vs with
    | nil => simp [opSem] at ho
    | cons v vs => obtain ⟨m, f, args, h1⟩ := fn_call ho; cases h1
  · rename_i p m f args ho
    cases vs with
    | nil => simp [opSem] at ho
    | cons v vs =>
     obtain ⟨m, f, args, h1⟩ := fn_call ho
     cases h1
     split at e
     · rename_i r g rc hc
       cases e
       exact (callM_true hc).1
     · cases e
  · cases e
 all_goals
  split at e
  · rename_i b g ho
    unfold opSem at ho
    split at ho <;> rename_i heq <;> (try cases heq)
    all_goals first
     | (obtain ⟨z, _, h1⟩ := val_eq ho; cases h1; cases e; rfl)
     | (repeat' split at ho) <;> (first | (cases ho; cases e; rfl) | (cases ho; done))
  · rename_i p m f args ho
    unfold opSem at ho
    split at ho <;> rename_i heq <;> (try cases heq)
    all_goals first
     | (obtain ⟨z, _, h1⟩ := val_eq ho; cases h1; done)
     | (repeat' split at ho) <;> (cases ho; done)
  · cases e
end
end Go.Proofs.YtlhajccbfapieaaGreatDoor.Ab
