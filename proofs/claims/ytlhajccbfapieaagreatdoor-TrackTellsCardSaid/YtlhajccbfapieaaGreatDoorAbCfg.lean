/- This seat's program: how each function is called; what is known without its text. -/
import Derived.Test.YtlhajccbfapieaaGreatDoorAbF
import Derived.Test.YtlhajccbfapieaaGreatDoorProg
import Derived.KernelRfl
import Derived.IntWalk
import Derived.Lib.Bytealg
import Derived.Lib.ItoaLen
import Derived.Lib.Join
namespace Go.Proofs.YtlhajccbfapieaaGreatDoor.Ab
open Go
def opns : List Nat := [
 97,
 122,
 98,
 99,
 121,
 138,
 205,
 72,
 48,
 74,
 100000]
def isPtrT (P : Program) (t : TypeId) : Bool := match P.underlying t with
 | some (.pointer _) => true
 | some (.func ..) => true
 | _ => false
def anyPtr (P : Program) : List TypeId → Bool
 | [] => false
 | t :: l => match isPtrT P t with
  | true => true
  | false => anyPtr P l
def modeF (P : Program) (f : Nat) : Mode := match memb f opns with
 | true => .opn
 | false => match Nat.beq f 143 with
  | true => .drop
  | false => match P.funcs[f]? with
   | some fn => match anyPtr P fn.resultTypes.toList with
    | true => .opn
    | false => match Nat.blt 0 fn.nfree, anyPtr P fn.params.toList with
     | false, false => .pure
     | _, _ => .drop
   | none => .pure
def kNoEscape : List AV → Option AV
 | [x] => force x
 | _ => none
def kIndexByte : List AV → Option AV
 | [.d (.str s), .d (.int .u8 c)] => some (I (Lib.indexByte s (UInt8.ofNat c.toNat)))
 | _ => none
def kItoa : List AV → Option AV
 | [.d (.int .i64 n)] => match decide (-9223372036854775808 ≤ n) && decide (n ≤ 9223372036854775807) with
  | true => some (S (Lib.itoa n))
  | false => none
 | _ => none
def rowStr : List DV → Option (List UInt8)
 | [.str s] => some s
 | _ => none
def rowStrs : List (List DV) → Option (List (List UInt8))
 | [] => some []
 | r :: l => match rowStr r, rowStrs l with
  | some s, some t => some (s :: t)
  | _, _ => none
def kJoin : List AV → Option AV
 | [.d .nilsl, .d (.str _)] => some (S [])
 | [.d (.sl 1 rows), .d (.str sep)] => match rowStrs rows with
  | some l => match decide (l.length ≤ 140737488355328) && decide ((Lib.join l sep).length ≤ 140737488355328) with
   | true => some (S (Lib.join l sep))
   | false => none
  | none => none
 | _ => none
def kNone : List AV → Option AV := fun _ => none
def knownL : List (Nat × (List AV → Option AV)) := [
 (143, kNoEscape),
 (160, kIndexByte),
 (66, kItoa),
 (65, kJoin),
 (100000, kNone)]
def lookK {α : Type} (f : Nat) : List (Nat × α) → Option α
 | [] => none
 | (i, g) :: l => match Nat.beq f i with
  | true => some g
  | false => lookK f l
def knownF (f : Nat) : Option (List AV → Option AV) := lookK f knownL
def globL : List (Nat × List DV) := [
 (1, Lib.pow10Tab.map fun z => DV.int .u64 z),
 (100000, [])]
def globF (g : Nat) : Option (List DV) := lookK g globL
def holdsSl (P : Program) : Nat → TypeId → Bool
 | 0, _ => true
 | d + 1, t => match P.underlying t with
  | some .bool => false
  | some (.int _) => false
  | some .string => false
  | some (.struct fs) => fs.toList.any fun f => holdsSl P d f.type
  | some (.array _ e) => holdsSl P d e
  | _ => true
def tellsF (P : Program) (f : Nat) : Bool := match P.funcs[f]? with
 | some fn => fn.resultTypes.toList.any (holdsSl P 8)
 | none => false
def cfg0 (P : Program) : Cfg := ⟨modeF P, globF, false, tellsF P, false⟩
def siteL : List Nat := [
 36,
 100000]
noncomputable def F0 : Nat → Option Fn := theF Tryz.prog (cfg0 Tryz.prog) knownF siteL
def cfOf (o : Option CFn) : CFn := match o with
 | some c => c
 | none => default
noncomputable def cfn (fn : Func) : CFn := cfOf (compB Tryz.prog (cfg0 Tryz.prog) 0 none fn)
theorem ieq_t {a b : Int} : (ieq a b = true) = (a = b) := by unfold ieq; simp
theorem ieq_f {a b : Int} : (ieq a b = false) = (a ≠ b) := by unfold ieq; simp
theorem ilt_t {a b : Int} : (ilt a b = true) = (a < b) := by unfold ilt; simp
theorem ilt_f {a b : Int} : (ilt a b = false) = (b ≤ a) := by unfold ilt; simp
theorem ile_t {a b : Int} : (ile a b = true) = (a ≤ b) := by unfold ile; simp
theorem ile_f {a b : Int} : (ile a b = false) = (b < a) := by unfold ile; simp
theorem seq_t {a b : List UInt8} : (seq a b = true) = (a = b) := by unfold seq; simp
theorem seq_f {a b : List UInt8} : (seq a b = false) = (a ≠ b) := by unfold seq; simp
theorem iz_t {a : Int} : (iz a = true) = (a = 0) := by unfold iz; simp
theorem iz_f {a : Int} : (iz a = false) = (a ≠ 0) := by unfold iz; simp
theorem ieq_d {a b : Int} : ieq a b = decide (a = b) := by unfold ieq; rw [Bool.eq_iff_iff]; simp
theorem ilt_d {a b : Int} : ilt a b = decide (a < b) := by unfold ilt; rfl
theorem ile_d {a b : Int} : ile a b = decide (a ≤ b) := by unfold ile; rfl
theorem seq_d {a b : List UInt8} : seq a b = decide (a = b) := by unfold seq; rw [Bool.eq_iff_iff]; simp
theorem iz_d {a : Int} : iz a = decide (a = 0) := by unfold iz; rw [Bool.eq_iff_iff]; simp
theorem nbeq_t {a b : Nat} : (Nat.beq a b = true) = (a = b) := by simp
theorem room_t {n b : Nat} (h : n * b ≤ 140737488355328) : room n b = true := by unfold room; simpa using h
theorem roomS_t {n : Nat} (h : n ≤ 9223372036854775807) : roomS n = true := by unfold roomS; simpa using h
theorem iadd64 {a b : Int} (h1 : -9223372036854775808 ≤ a + b) (h2 : a + b ≤ 9223372036854775807) : iadd .i64 a b = a + b := by
 unfold iadd; exact IntWalk.i64_in _ ⟨h1, h2⟩
theorem isub64 {a b : Int} (h1 : -9223372036854775808 ≤ a - b) (h2 : a - b ≤ 9223372036854775807) : isub .i64 a b = a - b := by
 unfold isub; exact IntWalk.i64_in _ ⟨h1, h2⟩
theorem imul64 {a b : Int} (h1 : -9223372036854775808 ≤ a * b) (h2 : a * b ≤ 9223372036854775807) : imul .i64 a b = a * b := by
 unfold imul; exact IntWalk.i64_in _ ⟨h1, h2⟩
theorem icast64 {a : Int} (h1 : -9223372036854775808 ≤ a) (h2 : a ≤ 9223372036854775807) : icast .i64 a = a := by
 unfold icast; exact IntWalk.i64_in _ ⟨h1, h2⟩
theorem iadd_one {i : Nat} (h : i < 9223372036854775807) : iadd .i64 (i : Int) (Int.ofNat 1) = ((i + 1 : Nat) : Int) := by rw [iadd64] <;> simp <;> omega
theorem back_one {i : Nat} (h : i < 9223372036854775807) : isub .i64 (iadd .i64 (i : Int) (Int.ofNat 1)) (Int.ofNat 1) = (i : Int) := by
 rw [iadd_one h, isub64] <;> simp <;> omega
theorem u8eq {c k : UInt8} : (c = k) = ((c.toNat : Int) = (k.toNat : Int)) := by
 exact propext ⟨fun h => by rw [h], fun h => UInt8.toNat_inj.1 (by omega)⟩
theorem ofn {n : Nat} : Int.ofNat n = (n : Int) := rfl
theorem st_eq {fr fr' : List (Nat × AV)} {h h' : Heap} {ds : List (Mode × Nat × List AV)} {rc : Rec} {n0 : Nat} (e1 : fr = fr') (e2 : h = h') : (⟨look fr, h, ds, rc, n0⟩ : St) = ⟨look fr', h', ds, rc, n0⟩ := by rw [e1, e2]
theorem cons_eq {α : Type} {a b : α} {l m : List α} (h : a = b) (k : l = m) : a :: l = b :: m := by rw [h, k]
theorem slot_eq {n : Nat} {a b : AV} (h : a = b) : (n, a) = (n, b) := by rw [h]
theorem arr_eq {o : Own} {t : Nat} {nl : Bool} {g sz : Nat} {r r' : List (List DV)} (h : r = r') : (⟨o, t, .arr nl g sz r⟩ : Obj) = ⟨o, t, .arr nl g sz r'⟩ := by rw [h]
theorem fix_eq {o : Own} {t : Nat} {r r' : List AV} (h : r = r') : (⟨o, t, .fix r⟩ : Obj) = ⟨o, t, .fix r'⟩ := by rw [h]
theorem I_eq {a b : Int} (h : a = b) : I a = I b := by rw [h]
theorem S_eq {a b : List UInt8} (h : a = b) : S a = S b := by rw [h]
theorem textOf_bytes (s : List UInt8) : textOf (s.map byteRow) = some s := by
 unfold textOf
 induction s with
 | nil => rfl
 | cons c s ih =>
  simp only [List.map_cons, List.mapM_cons, ih]
  simp [byteRow, rowByte]
theorem iget_t {α : Type} {l : List α} {n : Nat} {x : α} (h : l[n]? = some x) : iget l (n : Int) = some x := by unfold iget; simp [h]
theorem iget_sl {α : Type} {l : List α} {lo hi i : Nat} {x : α} (h : l[lo + i]? = some x) (hlt : lo + i < hi) : iget ((l.take hi).drop lo) (i : Int) = some x := by
 apply iget_t
 rw [List.getElem?_drop, List.getElem?_take, if_pos hlt]
 exact h
theorem iget_lt {α : Type} {l : List α} {n : Int} (h0 : 0 ≤ n) (h : n < l.length) : iget l n = some (l[n.toNat]'(by omega)) := by
 unfold iget; rw [if_pos h0]; exact List.getElem?_eq_getElem _
theorem icut_t {α : Type} {l : List α} {a b : Int} (h1 : 0 ≤ a) (h2 : a ≤ b) (h3 : b ≤ l.length) : icut l a b = some ((l.take b.toNat).drop a.toNat) := by unfold icut; rw [if_pos ⟨h1, h2, h3⟩]
theorem icut_e {α : Type} {l : List α} {a b : Int} {i j : Nat} (ha : a = i) (hb : b = j) (h : i ≤ j) (h' : j ≤ l.length) : icut l a b = some ((l.take j).drop i) := by
 subst ha hb; rw [icut_t (by omega) (by omega) (by omega)]; rfl
theorem iget_e {α : Type} {l : List α} {a : Int} {i : Nat} {x : α} (ha : a = i) (h : l[i]? = some x) : iget l a = some x := by subst ha; exact iget_t h
theorem ilt_e {a b : Int} {i j : Nat} (ha : a = i) (hb : b = j) (h : i < j) : ilt a b = true := by subst ha hb; rw [ilt_t]; omega
theorem ilt_n {a b : Int} {i j : Nat} (ha : a = i) (hb : b = j) (h : j ≤ i) : ilt a b = false := by subst ha hb; rw [ilt_f]; omega
theorem ieq_c {c k : UInt8} (n : Nat) (hk : k.toNat = n) (h : c = k) : ieq (c.toNat : Int) (Int.ofNat n) = true := by subst h; rw [ieq_t, hk]; rfl
theorem ieq_nc {c k : UInt8} (n : Nat) (hk : k.toNat = n) (h : c ≠ k) : ieq (c.toNat : Int) (Int.ofNat n) = false := by
 rw [ieq_f, ← hk]; intro e; exact h (UInt8.toNat_inj.1 (Int.ofNat.inj e))
end Go.Proofs.YtlhajccbfapieaaGreatDoor.Ab
