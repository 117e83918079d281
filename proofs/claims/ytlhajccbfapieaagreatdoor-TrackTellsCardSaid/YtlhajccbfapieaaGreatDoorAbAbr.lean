/- Short words for compiled code. -/
import Derived.Test.YtlhajccbfapieaaGreatDoorAbCfg
namespace Go.Proofs.YtlhajccbfapieaaGreatDoor.Ab
open Go
abbrev i1 (d : Nat) (a : Act) (xs : List Opd) : Ins := ⟨some d, none, a, xs⟩
abbrev k1 (n : Nat) : Opd := .k (.d (.int .i64 (.ofNat n)))
abbrev g0 (d c : Nat) (a : Act) (xs : List Opd) : Ins := ⟨some d, some (c, false), a, xs⟩
abbrev g1 (d c : Nat) (a : Act) (xs : List Opd) : Ins := ⟨some d, some (c, true), a, xs⟩
abbrev m1 (d s : Nat) : Ins := ⟨some d, none, .mv, [.t s]⟩
abbrev kt : Opd := .k (.d (.bool true))
abbrev kf : Opd := .k (.d (.bool false))
abbrev ld : Act := .load none
abbrev bi (o : BinOp) : Act := .bin o (.nil 10)
abbrev fp (f : Nat) : Opd := .k (.fn .pure f [] [])
end Go.Proofs.YtlhajccbfapieaaGreatDoor.Ab
