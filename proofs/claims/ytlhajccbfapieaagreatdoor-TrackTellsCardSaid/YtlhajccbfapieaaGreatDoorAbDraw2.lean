/- Regions that are run in any order: which operations change places. -/
import Derived.Test.YtlhajccbfapieaaGreatDoorAbDraw
namespace Go.Proofs.YtlhajccbfapieaaGreatDoor.Ab
open Go
set_option linter.unusedVariables false
set_option linter.unusedSimpArgs false
theorem eqA_heap {q : EqK} (hq : q ≠ .nil 1) {h k : Heap} {x y : AV} {r : Bool} (e : eqA h q x y = some r) : eqA k q x y = some r := by
 cases q with
 | nil m =>
  have hm : m ≠ 1 := fun e => hq (by rw [e])
  obtain ⟨h1, h2, _⟩ := eqA_nil e
  have iso : ∀ z : AV, nilKind z = m → isNil k z = isNil h z := by
   intro z hz
   cases z with
   | d d => cases d <;> rfl
   | osl i g lo hi => exact (hm hz.symm).elim
   | _ => rfl
  have b1 : (Nat.beq (nilKind x) m && Nat.beq (nilKind y) m) = true := by simp [h1, h2]
  simp only [eqA, b1] at e ⊢
  cases hx : litNil x <;> cases hy : litNil y <;> simp only [hx, hy, reduceCtorEq] at e ⊢
  · exact e
  · rw [iso x h1]; exact e
  · rw [iso y h2]; exact e
  · rw [iso y h2]; exact e
 | bool => cases x <;> try (simp only [eqA, reduceCtorEq] at e; done)
           cases y <;> try (simp only [eqA, reduceCtorEq] at e; done)
           rename_i a b
           cases a <;> try (simp only [eqA, reduceCtorEq] at e; done)
           cases b <;> try (simp only [eqA, reduceCtorEq] at e; done)
           exact e
 | cells n l => cases x <;> try (simp only [eqA, reduceCtorEq] at e; done)
                cases y <;> try (simp only [eqA, reduceCtorEq] at e; done)
                exact e
theorem binA_heap {op : BinOp} {q : EqK} (hq : q ≠ .nil 1) {h k : Heap} {x y z : AV} (e : binA h op q x y = some z) : binA k op q x y = some z := by
 have hE : binE h op q x y = some z → binE k op q x y = some z := by
  unfold binE
  intro e
  split at e
  · simp only [Option.map_eq_some_iff] at e ⊢
    obtain ⟨b, h1, h2⟩ := e
    exact ⟨b, eqA_heap hq h1, h2⟩
  · simp only [Option.map_eq_some_iff] at e ⊢
    obtain ⟨b, h1, h2⟩ := e
    exact ⟨b, eqA_heap hq h1, h2⟩
  · cases e
 by_cases h1 : ∃ k1 a k2 b, x = .d (.int k1 a) ∧ y = .d (.int k2 b)
 · obtain ⟨k1, a, k2, b, rfl, rfl⟩ := h1; exact e
 · by_cases h2 : ∃ a b, x = .d (.str a) ∧ y = .d (.str b)
   · obtain ⟨a, b, rfl, rfl⟩ := h2; exact e
   · have key : ∀ g : Heap, binA g op q x y = binE g op q x y := by
      intro g
      unfold binA
      split
      · exact (h1 ⟨_, _, _, _, rfl, rfl⟩).elim
      · exact (h2 ⟨_, _, rfl, rfl⟩).elim
      · rfl
     rw [key] at e ⊢
     exact hE e
set_option maxHeartbeats 1600000 in
theorem op_kind0 {act : Act} {vs : List AV} {h : Heap} {r : OR} (hk : kindOf act = 0) (hr : opSem h act vs = some r) : ∃ a, r = .v a h ∧ ∀ k, opSem k act vs = some (.v a k) := by
 cases act
 case bin op q =>
  have hq : q ≠ .nil 1 := fun e => by subst e; simp [kindOf] at hk
  match vs, hr with
  | [x, y], hr =>
   simp only [opSem] at hr
   obtain ⟨z, e, rfl⟩ := val_eq hr
   exact ⟨z, rfl, fun k => by simp only [opSem, binA_heap hq e (k := k)]; rfl⟩
  | [], hr => simp [opSem] at hr
  | [_], hr => simp [opSem] at hr
  | _ :: _ :: _ :: _, hr => simp [opSem] at hr
 case call p => cases p <;> simp [kindOf] at hk
 all_goals first
  | (simp [kindOf] at hk; done)
  | skip
 all_goals
  unfold opSem at hr
  split at hr <;> rename_i heq <;> (try cases heq)
 all_goals first
  | (cases hr; exact ⟨_, rfl, fun k => rfl⟩)
  | (obtain ⟨x, e, rfl⟩ := val_eq hr; exact ⟨x, rfl, fun k => by simp only [opSem, e, val]⟩)
  | skip
 all_goals
  repeat' split at hr
 all_goals first
  | (cases hr; done)
  | (cases hr; exact ⟨_, rfl, fun k => by simp only [opSem, *]⟩)
  | (obtain ⟨x, e, rfl⟩ := val_eq hr; exact ⟨x, rfl, fun k => by simp only [opSem, e, val, *]⟩)
  | (simp only [Option.map_eq_some_iff] at hr; obtain ⟨x, e, rfl⟩ := hr; exact ⟨_, rfl, fun k => by simp only [opSem, e, Option.map_some, *]⟩)
  | (rename_i p _ _ _ _ _ _ _; cases p <;> simp [kindOf] at hk; done)
  | skip
end Go.Proofs.YtlhajccbfapieaaGreatDoor.Ab
