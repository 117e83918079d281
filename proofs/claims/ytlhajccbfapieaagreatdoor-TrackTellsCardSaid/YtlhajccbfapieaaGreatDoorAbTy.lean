/- The arguments of the laws, by their types; what a law's listed tables give. -/
import Derived.Test.YtlhajccbfapieaaGreatDoorAbLaw
import Derived.Test.YtlhajccbfapieaaGreatDoorAbKnown
import Derived.Lib.LaidTab
namespace Go.Proofs.YtlhajccbfapieaaGreatDoor.Ab
open Go Go.ChangeShapes Go.WideShapes Go.RowKit
set_option maxRecDepth 100000
set_option linter.unusedSimpArgs false
set_option linter.unusedVariables false
theorem int_of {d : Nat} {xs : List DV} (h : Shape Tryz.prog d 3 xs) : ∃ n : Int, xs = [.int .i64 n] ∧ (Lit.int .i64 n).wf = true := by
 cases d with
 | zero => exact h.elim
 | succ d => rw [Shape, Tryz.underlying3] at h; exact h
theorem bool_of {d : Nat} {xs : List DV} (h : Shape Tryz.prog d 4 xs) : ∃ b : Bool, xs = [.bool b] := by
 cases d with
 | zero => exact h.elim
 | succ d => rw [Shape, Tryz.underlying4] at h; exact h
theorem string_of {d : Nat} {xs : List DV} (h : Shape Tryz.prog d 9 xs) : ∃ s : List UInt8, xs = [.str s] ∧ s.length ≤ maxLen := by
 cases d with
 | zero => exact h.elim
 | succ d => rw [Shape, Tryz.underlying9] at h; exact h
theorem len_of {d : Nat} {xs : List DV} (h : Shape Tryz.prog d 23 xs) : ∃ k n : Int, xs = [.int .i64 k, .int .i64 n] := by
 cases d with
 | zero => exact h.elim
 | succ d =>
  rw [Shape, Tryz.underlying23] at h
  obtain ⟨a, b, rfl, h1, c, e, rfl, h2, rfl⟩ := h
  obtain ⟨k, rfl, _⟩ := int_of h1
  obtain ⟨n, rfl, _⟩ := int_of h2
  exact ⟨k, n, rfl⟩
theorem arg_int (x : DV) : argA Tryz.prog 3 [x] = .d x := by simp only [argA, Tryz.underlying3]
theorem arg_bool (x : DV) : argA Tryz.prog 4 [x] = .d x := by simp only [argA, Tryz.underlying4]
theorem arg_len (xs : List DV) : argA Tryz.prog 23 xs = .agg (xs.map .d) := by simp only [argA, Tryz.underlying23]
theorem laid_tail {P : Program} {y : String × DataW Unit} {r : List (String × DataW Unit)} {w : World} (h : laidMet P (y :: r) w) : laidMet P r w := by
 obtain ⟨ps, hv, hn, hall⟩ := h
 obtain ⟨n, d⟩ := y
 obtain ⟨_, _, _, _, p, q, _, _, _, _, hr, rfl⟩ := hv
 exact ⟨q, hr, (List.nodup_append.1 hn).2.1, fun b off hm => hall b off (List.mem_append_right _ hm)⟩
theorem glob_of_tab {P : Program} {W : World} {g : Nat} {zs : List Int} {k : IntKind} {name : String} (h : Lib.TabIs P W name k zs) (hg : P.globalNamed name = some g) :
 relD.relCells W noFb (zs.map fun z => DV.int k z) g 0 ∧ ((zs.map fun z => DV.int k z) ≠ [] → csize W g = (zs.map fun z => DV.int k z).length) := by
 have hh := h
 unfold Lib.TabIs World.var? at h
 rw [hg] at h
 simp only [Option.bind_some] at h
 split at h
 · rename_i cs e fz hc
   simp only [Option.some.injEq] at h
   refine ⟨?_, fun _ => ?_⟩
   · rw [relCells_iff]
     intro j x hj
     refine ⟨fun hf => hf.elim, ?_⟩
     rw [List.getElem?_map, Option.map_eq_some_iff] at hj
     obtain ⟨z, hz, rfl⟩ := hj
     refine ⟨.int k z, ?_, by simp only [relD]⟩
     rw [cel_eq hc, h, Nat.zero_add]
     simp [hz]
   · unfold csize
     rw [hc]
     simp [h]
 · cases h
theorem glob_ok {W : World} (h : Lib.TabIs Tryz.prog W "internal/strconv.uint64pow10" .u64 Lib.pow10Tab) : Glob (cfg0 Tryz.prog) ⟨W, noFb, [], []⟩ := by
 intro g row e
 simp only [cfg0, globF, globL, lookK] at e
 split at e
 · rename_i hb
   cases Nat.eq_of_beq_eq_true hb
   cases e
   exact glob_of_tab h (by kernel_rfl)
 · split at e
   · cases e; exact ⟨trivial, fun h => (h rfl).elim⟩
   · cases e
def leaf : DataW Unit → Value
 | .lit (.int k n) => .int k n
 | _ => .bool false
def leaves : DataW Unit → List Value
 | .agg l => l.map leaf
 | _ => []
def pairs : DataW Unit → List Value
 | .agg l => (l.map leaves).flatten
 | _ => []
noncomputable def layAt (W : World) (i : Nat) (l : List Value) : World :=
 { W with heap := W.heap.modify i fun
  | .cells _ t frozen => .cells l.toArray t frozen
  | o => o }
end Go.Proofs.YtlhajccbfapieaaGreatDoor.Ab
