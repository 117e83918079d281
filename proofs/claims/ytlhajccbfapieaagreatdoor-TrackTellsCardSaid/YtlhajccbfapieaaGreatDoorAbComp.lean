/- From the model's code to the interpreter's: by program, all types looked up. -/
import Derived.Test.YtlhajccbfapieaaGreatDoorAbCalls
import Derived.Laws.StructEq
import Derived.ChangeKeysEq
namespace Go.Proofs.YtlhajccbfapieaaGreatDoor.Ab
open Go
set_option linter.unusedVariables false
set_option linter.unusedSimpArgs false
structure Cfg where
 mode : Nat → Mode
 glob : Nat → Option (List DV)
 slots : Bool
 tells : Nat → Bool
 strict : Bool
def compVal : Value → Option AV
 | .bool b => some (.d (.bool b))
 | .int k n => some (.d (.int k n))
 | .string s => some (.d (.str s.data.toList))
 | .pointer none => some (.d .nilp)
 | .slice none 0 0 => some (.d .nilsl)
 | .map none => some (.d .nilmap)
 | .nilFunc => some (.d .nilf)
 | .nilIface => some (.d .nili)
 | _ => none
def compCells : List Value → Option (List AV)
 | [] => some []
 | v :: l => match compVal v, compCells l with
  | some x, some xs => some (x :: xs)
  | _, _ => none
def compCellsD : List Value → Option (List DV)
 | [] => some []
 | v :: l => match compVal v, compCellsD l with
  | some (.d x), some xs => some (x :: xs)
  | _, _ => none
def compZero : Value → Option AV
 | .agg cs => (compCells cs.toList).map .agg
 | v => compVal v
def compOpd (cfg : Cfg) (n : Nat) : Operand → Option Opd
 | .tmp t => match Nat.blt t n with
  | true => some (.t t)
  | false => none
 | .const v => (compVal v).map .k
 | .func f => some (.k (.fn (cfg.mode f) f [] []))
 | .global g => match cfg.glob g with
  | some row => some (.k (.rpt row 0))
  | none => some (.k .junk)
def compOpds (cfg : Cfg) (n : Nat) : List Operand → Option (List Opd)
 | [] => some []
 | x :: l => match compOpd cfg n x, compOpds cfg n l with
  | some y, some ys => some (y :: ys)
  | _, _ => none
def eqFields (P : Program) (g : TypeId → Nat → Option (List (Nat × Nat))) (off lim : Nat) : List Field → Option (List (Nat × Nat))
 | [] => some []
 | f :: fs => match f.name != "_" && Nat.ble (f.offset + P.cellsOf f.type) lim && Nat.blt f.offset lim, g f.type (off + f.offset), eqFields P g off lim fs with
  | true, some a, some b => some (a ++ b)
  | _, _, _ => none
def eqElems (g : TypeId → Nat → Option (List (Nat × Nat))) (off lim : Nat) (e : TypeId) (sz : Nat) : Nat → Nat → Option (List (Nat × Nat))
 | 0, _ => some []
 | k + 1, i => match Nat.ble (i * sz + sz) lim && Nat.blt (i * sz) lim, g e (off + i * sz), eqElems g off lim e sz k (i + 1) with
  | true, some a, some b => some (a ++ b)
  | _, _, _ => none
def eqCellsOf (P : Program) : Nat → TypeId → Nat → Option (List (Nat × Nat))
 | 0, _, _ => none
 | d + 1, t, off => match P.underlying t with
  | some .bool => some [(off, 0)]
  | some (.int _) => some [(off, 1)]
  | some .string => some [(off, 2)]
  | some (.struct fs) => match P.stoodInHeld t with
   | true => none
   | false => eqFields P (eqCellsOf P d) off (P.cellsOf t) fs.toList
  | some (.array len e) => match P.info? e with
   | some _ => eqElems (eqCellsOf P d) off (P.cellsOf t) e (P.cellsOf e) len 0
   | none => none
  | _ => none
def compAgg (P : Program) (t : TypeId) : Option (List (Nat × Nat)) :=
 match P.eqGuardType P.depth t with
 | true => none
 | false => eqCellsOf P 20 t 0
def isNilConst : Operand → Bool
 | .const .nilIface => true
 | _ => false
def compEq (P : Program) (t : TypeId) (x y : Operand) : Option EqK :=
 match P.underlying t with
 | some .bool => some .bool
 | some (.int _) => some (.nil 10)
 | some .string => some (.nil 10)
 | some (.pointer e) => match P.info? e with
  | some _ => some (.nil 0)
  | none => none
 | some (.slice _) => some (.nil 1)
 | some (.map _ _) => some (.nil 2)
 | some (.func _ _ _) => some (.nil 3)
 | some (.interface _) => match isNilConst x || isNilConst y with
  | true => some (.nil 4)
  | false => none
 | some (.struct _) => (compAgg P t).map (.cells (P.cellsOf t))
 | some (.array _ _) => (compAgg P t).map (.cells (P.cellsOf t))
 | _ => none
def cellEq : Nat → Value → Value → Option Bool
 | 0, .bool a, .bool b => some (a == b)
 | 1, .int k a, .int k' b => if k = k' then some (a == b) else none
 | 2, .string a, .string b => some (a.toList == b.toList)
 | _, _, _ => none
def PartOf (P : Program) (t : TypeId) (xs : Array Value) (off : Nat) (x : Value) : Prop :=
 match P.underlying t with
 | some (.struct _) => x = .agg (xs.extract off (off + P.cellsOf t))
 | some (.array _ _) => x = .agg (xs.extract off (off + P.cellsOf t))
 | _ => xs[off]? = some x
section
variable {P : Program} {w : World}
theorem run_part {t : TypeId} {xs : Array Value} {off : Nat} (hi : (P.info? t).isSome = true) (hu : (P.underlying t).isSome = true) (h : off < xs.size) : ∃ x, (Go.part t xs off).run P w = .ok x w ∧ PartOf P t xs off x := by
 obtain ⟨i, hi⟩ := Option.isSome_iff_exists.1 hi
 obtain ⟨d, hu⟩ := Option.isSome_iff_exists.1 hu
 have hs : (sizeOf t).run P w = .ok (P.cellsOf t) w := run_sizeOf w hi
 cases d <;> simp [Go.part, isAgg, run_underlying hu, Result.andThen, PartOf, hu, hs, h]
theorem extract_extract {xs : Array Value} {off lim o n : Nat} (h : o + n ≤ lim) : (xs.extract off (off + lim)).extract o (o + n) = xs.extract (off + o) (off + o + n) := by
 apply Array.ext'
 simp only [Array.toList_extract, List.extract_eq_take_drop]
 rw [List.drop_take, List.take_take, List.drop_drop]
 congr 1
 omega
theorem extract_get {xs : Array Value} {off lim o : Nat} (h : o < lim) : (xs.extract off (off + lim))[o]? = xs[off + o]? := by
 rw [Array.getElem?_extract]
 split
 · rfl
 · rename_i hn
   symm
   apply Array.getElem?_eq_none
   omega
theorem PartOf.in {t e : TypeId} {xs z : Array Value} {off o : Nat} (hz : z = xs.extract off (off + P.cellsOf t)) (h1 : o + P.cellsOf e ≤ P.cellsOf t) (h2 : o < P.cellsOf t) {x : Value} (h : PartOf P e z o x) :
 PartOf P e xs (off + o) x := by
 subst hz
 unfold PartOf at h ⊢
 cases hu : P.underlying e with
 | none => rw [hu] at h; simp only at h ⊢; rwa [extract_get h2] at h
 | some d =>
  rw [hu] at h
  cases d <;> simp only at h ⊢ <;> first | (rwa [extract_get h2] at h) | (rw [h, extract_extract h1])
theorem info_of_underlying {t : TypeId} {d : TypeDesc} (h : P.underlying t = some d) : (P.info? t).isSome = true := by
 unfold Program.underlying at h
 split at h <;> simp_all
theorem eq_underlying {d : Nat} {t : TypeId} {off : Nat} {l : List (Nat × Nat)} (h : eqCellsOf P d t off = some l) : (P.underlying t).isSome = true := by
 cases d with
 | zero => simp [eqCellsOf] at h
 | succ d =>
  simp only [eqCellsOf] at h
  cases hu : P.underlying t with
  | none => rw [hu] at h; cases h
  | some _ => rfl
theorem eq_part {d : Nat} {t e : TypeId} {off o : Nat} {l : List (Nat × Nat)} (h : eqCellsOf P d e (off + o) = some l) {xs : Array Value} (hsz : ∀ z ∈ l, z.1 < xs.size) (h1 : o + P.cellsOf e ≤ P.cellsOf t) (h2 : o < P.cellsOf t) :
 ∃ x, (Go.part e (xs.extract off (off + P.cellsOf t)) o).run P w = .ok x w ∧ PartOf P e xs (off + o) x := by
 have hu := eq_underlying h
 obtain ⟨dd, hu⟩ := Option.isSome_iff_exists.1 hu
 have hi := info_of_underlying hu
 obtain ⟨i, hi⟩ := Option.isSome_iff_exists.1 hi
 have hs : (sizeOf e).run P w = .ok (P.cellsOf e) w := run_sizeOf w hi
 have hsc : (∀ k, l = [(off + o, k)] → off + o < xs.size) := fun k e => hsz (off + o, k) (by rw [e]; simp)
 cases d with
 | zero => simp [eqCellsOf] at h
 | succ d =>
  simp only [eqCellsOf, hu] at h
  cases dd <;> simp only [reduceCtorEq, Option.some.injEq] at h
  case bool =>
   have hlt := hsc 0 h.symm
   refine ⟨xs[off + o], ?_, ?_⟩
   · simp [Go.part, isAgg, run_underlying hu, Result.andThen, extract_get h2, hlt]
   · simp [PartOf, hu, hlt]
  case int k =>
   have hlt := hsc 1 h.symm
   refine ⟨xs[off + o], ?_, ?_⟩
   · simp [Go.part, isAgg, run_underlying hu, Result.andThen, extract_get h2, hlt]
   · simp [PartOf, hu, hlt]
  case string =>
   have hlt := hsc 2 h.symm
   refine ⟨xs[off + o], ?_, ?_⟩
   · simp [Go.part, isAgg, run_underlying hu, Result.andThen, extract_get h2, hlt]
   · simp [PartOf, hu, hlt]
  case struct fs =>
   refine ⟨.agg (xs.extract (off + o) (off + o + P.cellsOf e)), ?_, ?_⟩
   · simp [Go.part, isAgg, run_underlying hu, Result.andThen, hs]
     rw [Nat.min_eq_left h1, Nat.add_assoc]
   · simp [PartOf, hu]
  case array n e' =>
   refine ⟨.agg (xs.extract (off + o) (off + o + P.cellsOf e)), ?_, ?_⟩
   · simp [Go.part, isAgg, run_underlying hu, Result.andThen, hs]
     rw [Nat.min_eq_left h1, Nat.add_assoc]
   · simp [PartOf, hu]
theorem run_equalIn_cells (f : Nat × Nat → Bool) : ∀ (d : Nat) (D : Nat) (t : TypeId) (off : Nat) (l : List (Nat × Nat)), d ≤ D → eqCellsOf P d t off = some l → ∀ (xs ys : Array Value) (x y : Value),
 PartOf P t xs off x → PartOf P t ys off y → (∀ z ∈ l, z.1 < xs.size ∧ z.1 < ys.size) → (∀ z ∈ l, ∃ a b, xs[z.1]? = some a ∧ ys[z.1]? = some b ∧ cellEq z.2 a b = some (f z)) →
 (Op.equalIn D t x y).run P w = .ok (l.all f) w := by
 intro d
 induction d with
 | zero => intro D t off l _ h; simp [eqCellsOf] at h
 | succ d ih =>
  intro D t off l hD h xs ys x y hx hy hsz hall
  obtain ⟨D, rfl⟩ : ∃ k, D = k + 1 := ⟨D - 1, by omega⟩
  have hD : d ≤ D := by omega
  simp only [eqCellsOf] at h
  split at h
  · rename_i hu
    cases h
    unfold PartOf at hx hy
    rw [hu] at hx hy
    simp only at hx hy
    obtain ⟨a, b, h1, h2, h3⟩ := hall (off, 0) (by simp)
    simp only at h1 h2 h3
    rw [hx] at h1; rw [hy] at h2
    cases h1; cases h2
    cases x <;> simp only [cellEq, reduceCtorEq] at h3
    cases y <;> simp only [cellEq, reduceCtorEq] at h3
    rw [run_equalIn_bool' w D t _ _ hu]
    simp_all
  · rename_i k hu
    cases h
    unfold PartOf at hx hy
    rw [hu] at hx hy
    simp only at hx hy
    obtain ⟨a, b, h1, h2, h3⟩ := hall (off, 1) (by simp)
    simp only at h1 h2 h3
    rw [hx] at h1; rw [hy] at h2
    cases h1; cases h2
    cases x <;> simp only [cellEq, reduceCtorEq] at h3
    cases y <;> simp only [cellEq, reduceCtorEq] at h3
    split at h3
    · rename_i e
      subst e
      rw [run_equalIn_int w D t _ _ _ _ hu]
      simp_all
    · cases h3
  · rename_i hu
    cases h
    unfold PartOf at hx hy
    rw [hu] at hx hy
    simp only at hx hy
    obtain ⟨a, b, h1, h2, h3⟩ := hall (off, 2) (by simp)
    simp only at h1 h2 h3
    rw [hx] at h1; rw [hy] at h2
    cases h1; cases h2
    cases x <;> simp only [cellEq, reduceCtorEq] at h3
    cases y <;> simp only [cellEq, reduceCtorEq] at h3
    rw [run_equalIn_string w D t _ _ hu]
    simp_all
  · rename_i fs hu
    split at h
    · cases h
    · rename_i hst
      unfold PartOf at hx hy
      rw [hu] at hx hy
      simp only at hx hy
      subst hx hy
      have hf : P.fieldsOf t = fs := by simp [Program.fieldsOf, hu]
      rw [run_equalIn_struct w D t _ _ (by rw [hf]; exact hu) hst, hf]
      have key : ∀ (gs : List Field) (l : List (Nat × Nat)), eqFields P (eqCellsOf P d) off (P.cellsOf t) gs = some l → (∀ z ∈ l, z.1 < xs.size ∧ z.1 < ys.size) →
       (∀ z ∈ l, ∃ a b, xs[z.1]? = some a ∧ ys[z.1]? = some b ∧ cellEq z.2 a b = some (f z)) →
       (Op.eqFields D (xs.extract off (off + P.cellsOf t)) (ys.extract off (off + P.cellsOf t)) gs).run P w = .ok (l.all f) w := by
       intro gs
       induction gs with
       | nil => intro l h _ _; simp only [eqFields, Option.some.injEq] at h; subst h; simp [Op.eqFields]
       | cons g gs ihg =>
        intro l h hsz hall
        simp only [eqFields] at h
        split at h
        · rename_i a b hc ha hb
          cases h
          simp only [Bool.and_eq_true, bne_iff_ne, ne_eq] at hc
          obtain ⟨⟨hn, hle⟩, hlt⟩ := hc
          have hle := Nat.le_of_ble_eq_true hle
          have hlt : g.offset < P.cellsOf t := by simpa [Nat.blt_eq] using hlt
          obtain ⟨u, hu1, hu2⟩ := eq_part (w := w) (t := t) ha (xs := xs) (fun z hz => (hsz z (List.mem_append_left _ hz)).1) hle hlt
          obtain ⟨v, hv1, hv2⟩ := eq_part (w := w) (t := t) ha (xs := ys) (fun z hz => (hsz z (List.mem_append_left _ hz)).2) hle hlt
          have h3 := ih D g.type _ a hD ha xs ys u v hu2 hv2 (fun z hz => hsz z (List.mem_append_left _ hz)) (fun z hz => hall z (List.mem_append_left _ hz))
          have h4 := ihg b hb (fun z hz => hsz z (List.mem_append_right _ hz)) (fun z hz => hall z (List.mem_append_right _ hz))
          simp only [Op.eqFields, ne_eq, hn, not_false_eq_true, if_true, Sem.run_bind, hu1, hv1, h3, Result.andThen_ok, List.all_append]
          cases (a.all f)
          · simp
          · simpa using h4
        · cases h
      exact key fs.toList l h hsz hall
  · rename_i n e hu
    split at h
    · rename_i ie hi
      unfold PartOf at hx hy
      rw [hu] at hx hy
      simp only at hx hy
      subst hx hy
      rw [run_equalIn_array w D _ _ hu hi]
      have key : ∀ (k j : Nat) (l : List (Nat × Nat)), eqElems (eqCellsOf P d) off (P.cellsOf t) e (P.cellsOf e) k j = some l → (∀ z ∈ l, z.1 < xs.size ∧ z.1 < ys.size) →
       (∀ z ∈ l, ∃ a b, xs[z.1]? = some a ∧ ys[z.1]? = some b ∧ cellEq z.2 a b = some (f z)) →
       (Op.eqItems D e (P.cellsOf e) (xs.extract off (off + P.cellsOf t)) (ys.extract off (off + P.cellsOf t)) (List.range' j k)).run P w = .ok (l.all f) w := by
       intro k
       induction k with
       | zero => intro j l h _ _; simp only [eqElems, Option.some.injEq] at h; subst h; simp [Op.eqItems]
       | succ k ihk =>
        intro j l h hsz hall
        simp only [eqElems] at h
        split at h
        · rename_i a b hc ha hb
          cases h
          simp only [Bool.and_eq_true] at hc
          have hle := Nat.le_of_ble_eq_true hc.1
          have hlt : j * P.cellsOf e < P.cellsOf t := by simpa [Nat.blt_eq] using hc.2
          obtain ⟨u, hu1, hu2⟩ := eq_part (w := w) (t := t) ha (xs := xs) (fun z hz => (hsz z (List.mem_append_left _ hz)).1) hle hlt
          obtain ⟨v, hv1, hv2⟩ := eq_part (w := w) (t := t) ha (xs := ys) (fun z hz => (hsz z (List.mem_append_left _ hz)).2) hle hlt
          have h3 := ih D e _ a hD ha xs ys u v hu2 hv2 (fun z hz => hsz z (List.mem_append_left _ hz)) (fun z hz => hall z (List.mem_append_left _ hz))
          have h4 := ihk (j + 1) b hb (fun z hz => hsz z (List.mem_append_right _ hz)) (fun z hz => hall z (List.mem_append_right _ hz))
          simp only [List.range'_succ, Op.eqItems, Sem.run_bind, hu1, hv1, h3, Result.andThen_ok, List.all_append]
          cases (a.all f)
          · simp
          · simpa using h4
        · cases h
      rw [List.range_eq_range']
      exact key n 0 l h hsz hall
    · cases h
  · cases h
theorem eqCells_all {xs ys : List AV} : ∀ {l : List (Nat × Nat)} {r : Bool}, eqCells xs ys l = some r → ∃ f : Nat × Nat → Bool, (∀ z ∈ l, eqCell xs ys z.1 z.2 = some (f z)) ∧ r = l.all f
 | [], r, h => by simp only [eqCells, Option.some.injEq] at h; exact ⟨fun _ => true, fun z hz => (by cases hz), by simp [← h]⟩
 | (i, k) :: l, r, h => by
  refine ⟨fun z => (eqCell xs ys z.1 z.2).getD false, ?_⟩
  have key : ∀ (l : List (Nat × Nat)) (r : Bool), eqCells xs ys l = some r → (∀ z ∈ l, eqCell xs ys z.1 z.2 = some ((eqCell xs ys z.1 z.2).getD false)) ∧ r = l.all fun z => (eqCell xs ys z.1 z.2).getD false := by
   intro l
   induction l with
   | nil => intro r h; simp only [eqCells, Option.some.injEq] at h; exact ⟨fun z hz => (by cases hz), by simp [← h]⟩
   | cons z l ih =>
    intro r h
    obtain ⟨i, k⟩ := z
    cases l with
    | nil =>
     simp only [eqCells] at h
     exact ⟨fun z hz => (by simp at hz; subst hz; simp [h]), by simp [h]⟩
    | cons z' l =>
     simp only [eqCells] at h
     split at h
     · rename_i a b ha hb
       cases h
       obtain ⟨k1, k2⟩ := ih b hb
       refine ⟨fun z hz => ?_, by simp [ha, k2]⟩
       rcases List.mem_cons.1 hz with rfl | hz
       · simp [ha]
       · exact k1 z hz
     · cases h
  exact key _ r h
end
end Go.Proofs.YtlhajccbfapieaaGreatDoor.Ab
