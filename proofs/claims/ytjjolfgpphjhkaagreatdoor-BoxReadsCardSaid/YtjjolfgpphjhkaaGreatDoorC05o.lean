/- Arguments of laws: words. -/
import Derived.Test.YtjjolfgpphjhkaaGreatDoorM05
import Derived.Test.YtjjolfgpphjhkaaGreatDoorAbTy
namespace Go.Proofs.YtjjolfgpphjhkaaGreatDoor.Ab
open Go Go.ChangeShapes Go.WideShapes Go.RowKit
set_option linter.unusedSimpArgs false
set_option maxRecDepth 100000
set_option linter.unusedVariables false

theorem tok_of {d : Nat} {row : List DV} (h : Shape Tryz.prog (d + 2) 45 row) : ∃ t : Tok, row = tokRow t := by
  simp only [Shape, Tryz.underlying45, Tryz.underlying3, Tryz.underlying9, ShapeL] at h
  obtain ⟨a, b, rfl, ⟨k, rfl, _⟩, c, d, rfl, ⟨n, rfl, _⟩, e, f, rfl, ⟨s, rfl, _⟩, g, i, rfl, ⟨u, rfl, _⟩, rfl⟩ := h
  exact ⟨Tok.mk k n s u, rfl⟩
theorem tokRows_of {d : Nat} : ∀ {rows : List (List DV)}, (∀ row ∈ rows, Shape Tryz.prog (d + 2) 45 row) → ∃ l : List Tok, rows = l.map tokRow
  | [], _ => ⟨[], rfl⟩
  | row :: rows, h => by
    obtain ⟨t, rfl⟩ := tok_of (h row (List.mem_cons_self ..))
    obtain ⟨l, rfl⟩ := tokRows_of fun r hr => h r (List.mem_cons_of_mem _ hr)
    exact ⟨t :: l, rfl⟩
theorem cellsTok : Tryz.prog.cellsOf 45 = 4 := by kernel_rfl
theorem toks_of {d : Nat} {xs : List DV} (h : Shape Tryz.prog (d + 3) 22 xs) : ∃ (l : List Tok) (v : DV), toksA l v ∧ xs = [v] := by
  rw [Shape, Tryz.underlying22] at h
  rcases h with rfl | ⟨rows, rfl, hr, _⟩
  · exact ⟨[], .nilsl, .inl ⟨rfl, rfl⟩, rfl⟩
  · obtain ⟨l, rfl⟩ := tokRows_of hr
    rw [cellsTok]
    exact ⟨l, _, .inr rfl, rfl⟩
theorem arg_toks (x : DV) : argA Tryz.prog 22 [x] = .d x := by simp only [argA, Tryz.underlying22]
end Go.Proofs.YtjjolfgpphjhkaaGreatDoor.Ab
