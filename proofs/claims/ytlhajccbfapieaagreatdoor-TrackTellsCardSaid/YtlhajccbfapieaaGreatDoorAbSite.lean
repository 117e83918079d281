/- Ranges over functions: the one that a function's code holds, and which slots of the function a round looks at. -/
import Derived.Test.YtlhajccbfapieaaGreatDoorProg
import Derived.Test.YtlhajccbfapieaaGreatDoorAbDefs
namespace Go.Proofs.YtlhajccbfapieaaGreatDoor.Ab
open Go
structure Site where
 params : Array Tmp
 assign : Code
 body : Code
 keep : List Nat
 n : Nat
def rngs : Code → List (Array Tmp × Code × Code)
 | .seq a b => rngs a ++ rngs b
 | .cond _ a b => rngs a ++ rngs b
 | .block _ c => rngs c
 | .loop c => rngs c
 | .scope c => rngs c
 | .rangeFunc _ ps a b => [(ps, a, b)]
 | _ => []
def tmpO : Operand → List Nat
 | .tmp t => [t]
 | _ => []
def tmpOs (l : List Operand) : List Nat := l.foldr (fun x r => tmpO x ++ r) []
def readO : List Oper → List Nat
 | [] => []
 | o :: l => tmpOs o.op.operands.toList ++ readO l
def dstO : List Oper → List Nat
 | [] => []
 | o :: l => match o.dst with
  | some t => t :: dstO l
  | none => dstO l
def readC : Code → List Nat
 | .region _ ops _ => readO ops.toList
 | .seq a b => readC a ++ readC b
 | .cond c a b => tmpO c ++ (readC a ++ readC b)
 | .block _ c => readC c
 | .loop c => readC c
 | .scope c => readC c
 | .rangeFunc f _ a b => tmpO f ++ (readC a ++ readC b)
 | _ => []
def dstC : Code → List Nat
 | .region _ ops _ => dstO ops.toList
 | .seq a b => dstC a ++ dstC b
 | .cond _ a b => dstC a ++ dstC b
 | .block _ c => dstC c
 | .loop c => dstC c
 | .scope c => dstC c
 | _ => []
def freeL (set : List Nat) : List Nat → List Nat → List Nat
 | [], acc => acc
 | t :: l, acc => match memb t set || memb t acc with
  | true => freeL set l acc
  | false => freeL set l (acc ++ [t])
def siteF (fn : Func) : Option Site :=
 match fn.body with
 | some c => match rngs c with
  | [(ps, a, b)] => some ⟨ps, a, b, freeL (ps.toList ++ (dstC a ++ dstC b)) (readC a ++ readC b) [], fn.ntmps⟩
  | _ => none
 | none => none
def siteOf (P : Program) (num : Nat) : Option Site :=
 match P.funcs[num]? with
 | some fn => siteF fn
 | none => none
noncomputable def theSite (num : Nat) : Option Site := siteOf Tryz.prog num
end Go.Proofs.YtlhajccbfapieaaGreatDoor.Ab
