/- SliceData and String of package unsafe: the bytes of an array told as a text; the array is written no more. -/
import Derived.Test.YtlhajccbfapieaaGreatDoorAbOps2
import Derived.Lib.UnsafeStr
namespace Go.Proofs.YtlhajccbfapieaaGreatDoor.Ab
open Go
set_option linter.unusedVariables false
set_option linter.unusedSimpArgs false
section
variable {P : Program} {c : Cx}
theorem freeze_heap_ne {w : World} {a : Addr} {n b : Nat} (h : a.block ≠ b) : (w.freeze a n).heap[b]? = w.heap[b]? := by
 unfold World.freeze
 split
 · rfl
 · simp only [Array.getElem?_modify]; rw [if_neg h]
theorem freeze_size {w : World} {a : Addr} {n : Nat} : (w.freeze a n).heap.size = w.heap.size := by
 unfold World.freeze
 split
 · rfl
 · simp
theorem freeze_rest {w : World} {a : Addr} {n : Nat} : (w.freeze a n).os = w.os ∧ (w.freeze a n).tape = w.tape ∧ (w.freeze a n).output = w.output := by
 unfold World.freeze
 split <;> exact ⟨rfl, rfl, rfl⟩
theorem freeze_csize {w : World} {a : Addr} {n b : Nat} : csize (w.freeze a n) b = csize w b := by
 unfold World.freeze
 split
 · rfl
 · unfold csize
   simp only [Array.getElem?_modify]
   by_cases hb : a.block = b
   · simp only [hb, if_true]
     cases w.heap[b]? with
     | none => rfl
     | some o => cases o <;> rfl
   · simp only [hb, if_false]
def Cx.froze (c : Cx) (i b o n ty g : Nat) : Cx := { c with w := c.w.freeze ⟨b, o, none⟩ n, h := c.h.set i ⟨.mine, ty, .arr true (g + 1) 1 []⟩, bs := c.bs.set i none }
theorem goes_froze (ok : Ok c) {i b q ty : Nat} {nl : Bool} {g sz : Nat} {rows : List (List DV)} (hi : c.h[i]? = some ⟨.mine, ty, .arr nl g sz rows⟩) (hb : c.bs[i]? = some (some (b, q))) (o n : Nat) :
 Goes c (c.froze i b o n ty g) := by
 obtain ⟨r1, r2, r3⟩ := freeze_rest (w := c.w) (a := ⟨b, o, none⟩) (n := n)
 refine ⟨r1, r2, r3, Nat.le_of_eq freeze_size.symm, fun b' _ hn => freeze_heap_ne (fun e => by simp only at e; subst e; exact hn ⟨i, q, ty, _, hi, hb⟩), fun b' _ hw => ?_, fun _ _ h => h, fun _ h _ => h, fun j b' q' hj => ?_, fun j x hx => ?_⟩
 · obtain ⟨j, q', ty', x, h1, h2⟩ := hw
   rcases getElem?_set_cases (show (c.bs.set i _)[j]? = some _ from h2) with ⟨rfl, e⟩ | ⟨hj, h2⟩
   · cases e
   · rcases getElem?_set_cases (show (c.h.set i _)[j]? = some _ from h1) with ⟨e, _⟩ | ⟨_, h1⟩
     · exact absurd e hj
     · exact ⟨j, q', ty', x, h1, h2⟩
 · rcases getElem?_set_cases (show (c.bs.set i _)[j]? = some _ from hj) with ⟨rfl, e⟩ | ⟨_, h2⟩
   · cases e
   · exact .inl h2
 · by_cases hj : j = i
   · subst hj
     rw [hi] at hx
     cases hx
     refine ⟨⟨.mine, ty, .arr true (g + 1) 1 []⟩, by simp only [Cx.froze]; rw [List.getElem?_set_self (List.getElem?_eq_some_iff.1 hi).1], .inl rfl, ?_⟩
     simp only [OB.goes]
     exact ⟨Nat.le_succ _, fun h => by omega⟩
   · refine ⟨x, by simp only [Cx.froze]; rw [List.getElem?_set_ne (Ne.symm hj)]; exact hx, .inl rfl, ?_⟩
     have hbe : (c.froze i b o n ty g).bs[j]? = c.bs[j]? := by simp only [Cx.froze]; rw [List.getElem?_set_ne (Ne.symm hj)]
     rw [hbe]
     cases hxb : x.b with
     | fix => simp [OB.goes]
     | lp => simp [OB.goes]
     | arr nl g sz rows =>
      simp only [OB.goes, Nat.le_refl, true_and, forall_const]
      exact fun b q hb => freeze_csize
theorem ok_froze (ok : Ok c) {i b q ty : Nat} {nl : Bool} {g sz : Nat} {rows : List (List DV)} (hi : c.h[i]? = some ⟨.mine, ty, .arr nl g sz rows⟩) (hb : c.bs[i]? = some (some (b, q))) (o n : Nat) :
 Ok (c.froze i b o n ty g) where
 len := by simp [Cx.froze, ok.len]
 apart j k b q q' hj hk := by
  simp only [Cx.froze] at hj hk
  rcases getElem?_set_cases hj with ⟨h1, e1⟩ | ⟨h1, e1⟩
  · cases e1
  · rcases getElem?_set_cases hk with ⟨h2, e2⟩ | ⟨h2, e2⟩
    · cases e2
    · exact ok.apart j k b q q' e1 e2
 fbs b' h := by simp only [Cx.froze]; rw [freeze_size]; exact ok.fbs b' h
 obj j x hx := by
  rcases getElem?_set_cases (show (c.h.set i _)[j]? = some _ from hx) with ⟨rfl, rfl⟩ | ⟨hj, hx⟩
  · simp only [relO]
    refine .inl ⟨trivial, trivial, ?_⟩
    simp only [Cx.froze]
    rw [List.getElem?_set_self (by rw [ok.len]; exact (List.getElem?_eq_some_iff.1 hi).1)]
  · refine relO_goes (goes_froze ok hi hb o n) ok (ok.obj j x hx) (by simp only [Cx.froze]; rw [List.getElem?_set_ne (Ne.symm hj)]) (fun b' q' hb' => ?_) fun _ _ _ => Iff.rfl
    exact freeze_heap_ne (fun e => by simp only at e; subst e; exact hj (ok.apart j i _ q' q hb' hb))
theorem liesAt_bytes {e : TypeId} (hc : P.cellsOf e = 1) (count off n : Nat) (hn : off + n ≤ count) : liesAt P P.depth e count off e n = true := by
 have hd : P.depth = (2 * (P.types.size + Made.depth) + 1) + 1 := rfl
 rw [hd]
 simp only [liesAt, Bool.or_eq_true]
 left
 rw [hd]
 simp [rowAt, hc, hn, sameLayout, Nat.mod_one]
theorem run_loadInts {w : World} : ∀ (xs : List Int) (a : Addr) (acc : ByteArray), (∀ j x, xs[j]? = some x → w.cell? (a.add j) = some (.int .u8 x)) →
 (loadBytes a acc xs.length).run P w = .ok ⟨acc.data ++ (xs.map fun n => UInt8.ofNat n.toNat).toArray⟩ w
 | [], a, acc, _ => by simp [loadBytes]
 | x :: l, a, acc, h => by
  have h0 : w.cell? a = some (.int .u8 x) := by
   have := h 0 x rfl
   simpa [Addr.add] using this
  have ih := run_loadInts l (a.add 1) (acc.push x.toNat.toUInt8) (fun j y hy => by
   have := h (j + 1) y (by simpa using hy)
   have e : (a.add 1).add j = a.add (j + 1) := by
    unfold Addr.add
    by_cases hj : j = 0
    · subst hj; simp
    · simp [hj]; omega
   rw [e]; exact this)
  simp only [List.length_cons, loadBytes, Sem.run_bind, run_load, h0, Result.andThen]
  rw [ih]
  congr 1
  apply ByteArray.ext
  simp [ByteArray.push]
theorem run_unsafeString (w : World) (pt it ty e : TypeId) (hp : P.underlying pt = some (.pointer e)) (hc : P.cellsOf e = 1) (g off cells : Nat) (hsh : w.shape? g = some (e, cells)) (l : List Int) (h0 : l ≠ []) (hn : off + l.length ≤ cells) (h63 : l.length ≤ 9223372036854775807)
 (hcell : ∀ j x, l[j]? = some x → w.cell? ((⟨g, off, none⟩ : Addr).add j) = some (.int .u8 x)) :
 (Builtin.unsafeString_ #[pt, it] ty #[.pointer (some ⟨g, off, none⟩), .int .i64 l.length]).run P w = .ok (.string ⟨(l.map fun n => UInt8.ofNat n.toNat).toArray⟩) (w.freeze ⟨g, off, none⟩ l.length) := by
 have hl : l.length ≠ 0 := by simpa using h0
 have hlb := run_loadInts (P := P) l ⟨g, off, none⟩ .empty hcell
 have hlies := liesAt_bytes (P := P) hc (cells / P.cellsOf e) off l.length (by rw [hc]; simpa using hn)
 have h63' : ¬ (9223372036854775807 : Int) < (l.length : Int) := by omega
 obtain ⟨e1, e2, e3, hdef⟩ : ∃ e1 e2 e3, Builtin.unsafeString_ #[pt, it] ty #[.pointer (some ⟨g, off, none⟩), .int .i64 l.length] =
  (do
   let n ← asInt (.int .i64 l.length)
   if n < 0 then runtimePanic e1
   if n > IntKind.i64.max then unsupported e2
   if n = 0 then pure (.string .empty)
   else if ← variablesAt ⟨g, off, none⟩ (← elemOf pt) n.toNat then (loadBytes ⟨g, off, none⟩ .empty n.toNat >>= fun s => Go.freeze ⟨g, off, none⟩ n.toNat >>= fun _ => pure (.string s))
   else unsupported e3) := ⟨_, _, _, rfl⟩
 rw [hdef]
 have hmax : IntKind.i64.max = 9223372036854775807 := rfl
 have hneg : ¬ (l.length : Int) < 0 := by omega
 simp [asInt, asIntOf, hmax, h63', hneg, hl, variablesAt, hsh, elemOf, run_underlying hp, hlies, hlb]
theorem run_unsafeString_none (w : World) (pt it ty : TypeId) (p : Option Addr) : (Builtin.unsafeString_ #[pt, it] ty #[.pointer p, .int .i64 0]).run P w = .ok (.string .empty) w :=
 Lib.run_unsafeString_none w pt it ty p
end
end Go.Proofs.YtlhajccbfapieaaGreatDoor.Ab
