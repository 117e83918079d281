/- From typed arguments to the interpreter's data; from its answer to the machine's call. -/
import Derived.Test.YtlhajccbfapieaaGreatDoorAbF
import Derived.ReadAgain
import Derived.ChangeStays
import Derived.ChangeSame
import Derived.DataReads
import Derived.Below
import Derived.RowKit
namespace Go.Proofs.YtlhajccbfapieaaGreatDoor.Ab
open Go Go.ChangeShapes Go.WideShapes Go.RowKit
set_option linter.unusedVariables false
set_option linter.unusedSimpArgs false
def fieldsT (P : Program) (S : TypeId → Bool) : List Field → Nat → Nat → Bool
 | [], off, n => Nat.beq off n
 | f :: fs, off, n => Nat.beq f.offset off && S f.type && fieldsT P S fs (off + P.cellsOf f.type) n
def okT (P : Program) (S : TypeId → Bool) (t : TypeId) : Bool := match P.underlying t with
 | some .bool => true
 | some (.int _) => true
 | some .string => true
 | some (.slice e) => S e && Nat.blt 0 (P.cellsOf e)
 | some (.struct fs) => fieldsT P S fs.toList 0 (P.cellsOf t)
 | some (.array n e) => S e && Nat.beq (P.cellsOf t) (n * P.cellsOf e)
 | _ => false
def closedT (P : Program) (L : List TypeId) : Bool := L.all fun t => okT P (memb · L) t
def subT (P : Program) (t : TypeId) : List TypeId := match P.underlying t with
 | some (.slice e) => [e]
 | some (.array _ e) => [e]
 | some (.struct fs) => fs.toList.map Field.type
 | _ => []
def tset (P : Program) : Nat → List TypeId → List TypeId → List TypeId
 | 0, _, acc => acc
 | _, [], acc => acc
 | n + 1, t :: todo, acc => match memb t acc with
  | true => tset P n todo acc
  | false => tset P n (subT P t ++ todo) (t :: acc)
theorem memb_mem {i : Nat} : ∀ {l : List Nat}, memb i l = true → i ∈ l
 | [], h => by cases h
 | j :: l, h => by
  simp only [memb] at h
  split at h
  · rename_i hb; exact List.mem_cons.2 (.inl (Nat.eq_of_beq_eq_true hb))
  · exact List.mem_cons_of_mem _ (memb_mem h)
theorem closedT_ok {P : Program} {L : List TypeId} (hL : closedT P L = true) {t : TypeId} (h : memb t L = true) : okT P (memb · L) t = true := List.all_eq_true.1 hL t (memb_mem h)
def ShapeL (S : TypeId → List DV → Prop) : List Field → List DV → Prop
 | [], xs => xs = []
 | f :: fs, xs => ∃ a b, xs = a ++ b ∧ S f.type a ∧ ShapeL S fs b
def ShapeN (S : List DV → Prop) : Nat → List DV → Prop
 | 0, xs => xs = []
 | n + 1, xs => ∃ a b, xs = a ++ b ∧ S a ∧ ShapeN S n b
def Shape (P : Program) : Nat → TypeId → List DV → Prop
 | 0, _, _ => False
 | d + 1, t, xs => match P.underlying t with
  | some .bool => ∃ b, xs = [.bool b]
  | some (.int k) => ∃ n, xs = [.int k n] ∧ (Lit.int k n).wf = true
  | some .string => ∃ s, xs = [.str s] ∧ s.length ≤ maxLen
  | some (.slice e) => xs = [.nilsl] ∨ ∃ rows, xs = [.sl (P.cellsOf e) rows] ∧ (∀ row ∈ rows, Shape P d e row) ∧ rows.length ≤ maxLen
  | some (.struct fs) => ShapeL (Shape P d) fs.toList xs
  | some (.array n e) => ShapeN (Shape P d e) n xs
  | _ => False
def RD (w : World) (Fb : Nat → Prop) : List DV → List Value → Prop
 | [], vs => vs = []
 | x :: xs, vs => ∃ v us, vs = v :: us ∧ relD w Fb x v ∧ RD w Fb xs us
section
variable {w : World} {Fb : Nat → Prop}
theorem RD.len : ∀ {xs : List DV} {vs : List Value}, RD w Fb xs vs → vs.length = xs.length
 | [], vs, h => by simp only [RD] at h; subst h; rfl
 | x :: xs, vs, h => by obtain ⟨v, us, rfl, _, h⟩ := h; simp [h.len]
theorem RD.get : ∀ {xs : List DV} {vs : List Value}, RD w Fb xs vs → ∀ (k : Nat) x, xs[k]? = some x → ∃ v, vs[k]? = some v ∧ relD w Fb x v
 | [], vs, h, k, x, hk => by simp at hk
 | y :: xs, vs, h, k, x, hk => by
  obtain ⟨v, us, rfl, h1, h2⟩ := h
  cases k with
  | zero => simp at hk; subst hk; exact ⟨v, rfl, h1⟩
  | succ k => simpa using h2.get k x (by simpa using hk)
theorem RD.append : ∀ {a b : List DV} {u v : List Value}, RD w Fb a u → RD w Fb b v → RD w Fb (a ++ b) (u ++ v)
 | [], b, u, v, h, k => by simp only [RD] at h; subst h; exact k
 | x :: a, b, u, v, h, k => by
  obtain ⟨y, us, rfl, h1, h2⟩ := h
  exact ⟨y, us ++ v, rfl, h1, h2.append k⟩
theorem RD.relL {h : Heap} {bs : List (Option (Nat × Nat))} : ∀ {xs : List DV} {vs : List Value}, RD w Fb xs vs → relL ⟨w, Fb, h, bs⟩ (xs.map .d) vs
 | [], vs, h => by simp only [RD] at h; subst h; rfl
 | x :: xs, vs, h => by
  obtain ⟨v, us, rfl, h1, h2⟩ := h
  exact ⟨v, us, rfl, by simpa only [relA] using h1, h2.relL⟩
end
section
variable {H : Type} {enc : TypeId × Value → H} {P : Program} {w : World} {base : Nat} {spare : Nat → Bool} {held : Bool}
abbrev noFb : Nat → Prop := fun _ => False
theorem fields_dv {S : TypeId → Bool} {d fuel : Nat} {cs : List Value} (ih : ∀ (t : TypeId) (cs : List Value) (x : DataW H × List MemPlace), S t = true → DataW.trod enc P w base spare held fuel t cs = some x → ∃ xs, RD w noFb xs cs ∧ Shape P d t xs) :
 ∀ (fs : List Field) (off : Nat), fieldsT P S fs off cs.length = true → ∀ ys, (fs.mapM fun f => DataW.trod enc P w base spare held fuel f.type ((cs.drop f.offset).take (P.cellsOf f.type))) = some ys →
 ∃ xs, RD w noFb xs (cs.drop off) ∧ ShapeL (Shape P d) fs xs
 | [], off, hf, ys, h => by
  simp only [fieldsT] at hf
  have := Nat.eq_of_beq_eq_true hf
  exact ⟨[], by rw [List.drop_eq_nil_of_le (by omega)]; rfl, rfl⟩
 | f :: fs, off, hf, ys, h => by
  simp only [fieldsT, Bool.and_eq_true] at hf
  obtain ⟨⟨h1, h2⟩, h3⟩ := hf
  have h1 := Nat.eq_of_beq_eq_true h1
  simp only [List.mapM_cons, Option.bind_eq_bind, Option.bind_eq_some_iff, Option.pure_def, Option.some.injEq] at h
  obtain ⟨x, hx, zs, hzs, rfl⟩ := h
  obtain ⟨a, ha, hsa⟩ := ih _ _ _ h2 hx
  obtain ⟨b, hb, hsb⟩ := fields_dv ih fs _ h3 zs hzs
  refine ⟨a ++ b, ?_, a, b, rfl, hsa, hsb⟩
  rw [h1] at ha
  have := ha.append hb
  rwa [← List.drop_drop, List.take_append_drop] at this
theorem array_dv {S : TypeId → Bool} {d fuel : Nat} {e : TypeId} {cs : List Value} (ih : ∀ (t : TypeId) (cs : List Value) (x : DataW H × List MemPlace), S t = true → DataW.trod enc P w base spare held fuel t cs = some x → ∃ xs, RD w noFb xs cs ∧ Shape P d t xs)
 (he : S e = true) : ∀ (n i : Nat), cs.length = (i + n) * P.cellsOf e → ∀ ys, ((List.range' i n).mapM fun i => DataW.trod enc P w base spare held fuel e ((cs.drop (i * P.cellsOf e)).take (P.cellsOf e))) = some ys →
 ∃ xs, RD w noFb xs (cs.drop (i * P.cellsOf e)) ∧ ShapeN (Shape P d e) n xs
 | 0, i, hl, ys, h => ⟨[], by rw [List.drop_eq_nil_of_le (by rw [hl]; simp)]; rfl, rfl⟩
 | n + 1, i, hl, ys, h => by
  simp only [List.range'_succ, List.mapM_cons, Option.bind_eq_bind, Option.bind_eq_some_iff, Option.pure_def, Option.some.injEq] at h
  obtain ⟨x, hx, zs, hzs, rfl⟩ := h
  obtain ⟨a, ha, hsa⟩ := ih _ _ _ he hx
  obtain ⟨b, hb, hsb⟩ := array_dv ih he n (i + 1) (by rw [hl]; congr 1; omega) zs hzs
  refine ⟨a ++ b, ?_, a, b, rfl, hsa, hsb⟩
  have := ha.append hb
  rwa [Nat.succ_mul, ← List.drop_drop, List.take_append_drop] at this
theorem cells_dv {b : Nat} {a : Addr} {n : Nat} {cs : List Value} (hc : w.cells? b a n = some cs) (hn : 0 < n) : a.spot = none ∨ True := .inr trivial
theorem row_rel {xs : List DV} {cs : List Value} (h : RD w noFb xs cs) {b o : Nat} (hc : ∀ k v, cs[k]? = some v → w.cell? ⟨b, o + k, none⟩ = some v) : relD.relCells w noFb xs b o := by
 rw [relCells_iff]
 intro k x hk
 obtain ⟨v, h1, h2⟩ := h.get k x hk
 exact ⟨fun h => h, v, hc k v h1, h2⟩
theorem cells_get {a : Addr} {n : Nat} {cs : List Value} (hc : w.cells? base a n = some cs) : cs.length = n ∧ ∀ k v, cs[k]? = some v → w.cell? (a.add k) = some v := by
 unfold World.cells? at hc
 split at hc
 · have hl := mapM_some_length hc
   simp at hl
   refine ⟨hl, fun k v hk => ?_⟩
   have hlt : k < n := by rw [← hl]; exact (List.getElem?_eq_some_iff.1 hk).1
   have := mapM_some_get hc k k (by simp [hlt])
   rw [this, hk]
 · cases hc
theorem rows_dv {S : TypeId → Bool} {d fuel : Nat} {e : TypeId} {a : Addr} {len : Nat} (ih : ∀ (t : TypeId) (cs : List Value) (x : DataW H × List MemPlace), S t = true → DataW.trod enc P w base spare held fuel t cs = some x → ∃ xs, RD w noFb xs cs ∧ Shape P d t xs)
 (he : S e = true) (h0 : 0 < P.cellsOf e) (hall : ∀ i, i < len → ∃ cs x, w.cells? base (a.add (i * P.cellsOf e)) (P.cellsOf e) = some cs ∧ DataW.trod enc P w base spare held fuel e cs = some x) :
 ∃ rows : List (List DV), rows.length = len ∧ (rows = [] ∨ a.spot = none) ∧ relD.relRows w noFb (P.cellsOf e) rows a.block a.off ∧ ∀ row ∈ rows, Shape P d e row := by
 have each : ∀ i, i < len → ∃ row, Shape P d e row ∧ ∃ cs, w.cells? base (a.add (i * P.cellsOf e)) (P.cellsOf e) = some cs ∧ RD w noFb row cs := by
  intro i hi
  obtain ⟨cs, x, h1, h2⟩ := hall i hi
  obtain ⟨xs, h3, h4⟩ := ih _ _ _ he h2
  exact ⟨xs, h4, cs, h1, h3⟩
 have spot : 0 < len → a.spot = none := by
  intro hl
  obtain ⟨row, _, cs, h1, _⟩ := each 0 hl
  obtain ⟨hcl, hc⟩ := cells_get h1
  have : ∃ v, cs[0]? = some v := ⟨cs[0]'(by omega), List.getElem?_eq_getElem _⟩
  obtain ⟨v, hv⟩ := this
  have := hc 0 v hv
  simp only [Nat.zero_mul, Addr.add, if_true] at this
  unfold World.cell? at this
  split at this
  · split at this
    · cases this
    · rename_i hs; simpa using hs
  · cases this
 have main : ∀ n, n ≤ len → ∃ rows : List (List DV), rows.length = n ∧ (∀ (r : Nat) row, rows[r]? = some row → Shape P d e row ∧ ∃ cs, w.cells? base (a.add (r * P.cellsOf e)) (P.cellsOf e) = some cs ∧ RD w noFb row cs) := by
  intro n
  induction n with
  | zero => intro _; exact ⟨[], rfl, fun r row h => by simp at h⟩
  | succ n ihn =>
   intro hn
   obtain ⟨rows, h1, h2⟩ := ihn (by omega)
   obtain ⟨row, h3, h4⟩ := each n (by omega)
   refine ⟨rows ++ [row], by simp [h1], fun r x hr => ?_⟩
   rcases getElem?_snoc_cases hr with hr | ⟨rfl, rfl⟩
   · exact h2 r x hr
   · rw [h1]; exact ⟨h3, h4⟩
 obtain ⟨rows, h1, h2⟩ := main len (Nat.le_refl _)
 have hsp : rows = [] ∨ a.spot = none := by
  cases rows with
  | nil => exact .inl rfl
  | cons => simp at h1; exact .inr (spot (by omega))
 refine ⟨rows, h1, hsp, ?_, fun row hrow => ?_⟩
 · rw [relRows_iff]
   intro r row hr
   obtain ⟨_, cs, h3, h4⟩ := h2 r row hr
   obtain ⟨h5, h6⟩ := cells_get h3
   have hs : a.spot = none := by
    rcases hsp with h | h
    · subst h; simp at hr
    · exact h
   obtain ⟨ab, ao, asp⟩ := a
   simp only at hs
   subst hs
   refine ⟨by rw [← h4.len, h5], row_rel h4 fun k v hk => ?_⟩
   have := h6 k v hk
   rw [add_plain, add_plain] at this
   exact this
 · obtain ⟨r, hr⟩ := List.getElem?_of_mem hrow
   exact (h2 r row hr).1
theorem trod_dv {L : List TypeId} (hL : closedT P L = true) : ∀ (fuel : Nat) (t : TypeId) (cs : List Value) (x : DataW H × List MemPlace), memb t L = true → DataW.trod enc P w base spare held fuel t cs = some x → ∃ xs, RD w noFb xs cs ∧ Shape P fuel t xs := by
 intro fuel
 induction fuel with
 | zero => intro t cs x _ h; simp [DataW.trod] at h
 | succ fuel ih =>
  intro t cs x hp h
  · have hp := closedT_ok hL hp
    unfold okT at hp
    cases hu : P.underlying t with
    | none => rw [hu] at hp; cases hp
    | some k =>
     rw [hu] at hp
     simp only [DataW.trod, hu] at h
     cases k <;> simp only [reduceCtorEq, Bool.false_eq_true] at hp
     case bool =>
      rcases cs with _ | ⟨v, _ | ⟨v2, l⟩⟩ <;> (try (simp at h; done)) <;> cases v <;> simp only [reduceCtorEq] at h
      rename_i b
      exact ⟨[.bool b], ⟨_, _, rfl, rfl, rfl⟩, by simp only [Shape, hu]; exact ⟨b, rfl⟩⟩
     case int k =>
      rcases cs with _ | ⟨v, _ | ⟨v2, l⟩⟩ <;> (try (simp at h; done)) <;> cases v <;> simp only [reduceCtorEq] at h
      rename_i k' n
      split at h
      · rename_i hk
        obtain ⟨rfl, hw⟩ := hk
        exact ⟨[.int k' n], ⟨_, _, rfl, rfl, rfl⟩, by simp only [Shape, hu]; exact ⟨n, rfl, hw⟩⟩
      · cases h
     case string =>
      rcases cs with _ | ⟨v, _ | ⟨v2, l⟩⟩ <;> (try (simp at h; done)) <;> cases v <;> simp only [reduceCtorEq] at h
      rename_i s
      split at h
      · rename_i hk
        exact ⟨[.str s.data.toList], ⟨_, _, rfl, rfl, rfl⟩, by simp only [Shape, hu]; exact ⟨_, rfl, by simpa using hk⟩⟩
      · cases h
     case slice e =>
      simp only [Bool.and_eq_true] at hp
      rcases cs with _ | ⟨v, _ | ⟨v2, l⟩⟩ <;> (try (simp at h; done)) <;> cases v <;> (try (simp only [reduceCtorEq] at h; done))
      rename_i a len cap
      cases a with
      | none =>
       cases len <;> cases cap <;> simp only [reduceCtorEq] at h
       exact ⟨[.nilsl], ⟨_, _, rfl, rfl, rfl⟩, by unfold Shape; rw [hu]; exact .inl rfl⟩
      | some a =>
       simp only at h
       split at h
       · rename_i hb
         obtain ⟨hb1, hb2, hb3⟩ := hb
         simp only [Option.bind_eq_some_iff] at h
         obtain ⟨elems, he, _⟩ := h
         obtain ⟨rows, r1, r2, r3, r4⟩ := rows_dv (a := a) (len := len) ih hp.1 (Nat.le_of_ble_eq_true hp.2) fun i hi => by
          have := mapM_some_get he i i (by simp [hi])
          have hl := mapM_some_length he
          simp at hl
          obtain ⟨y, hy⟩ : ∃ y, elems[i]? = some y := ⟨elems[i]'(by omega), List.getElem?_eq_getElem _⟩
          rw [hy] at this
          simp only [Option.bind_eq_some_iff] at this
          obtain ⟨cs, h1, h2⟩ := this
          exact ⟨cs, y, h1, h2⟩
         refine ⟨[.sl (P.cellsOf e) rows], ⟨_, _, rfl, ?_, rfl⟩, by simp only [Shape, hu]; exact .inr ⟨rows, rfl, r4, by omega⟩⟩
         simp only [relD]
         exact ⟨a, cap, by rw [r1], by omega, r2, r3⟩
       · cases h
     case struct fs =>
      simp only at h
      split at h
      · rename_i hl
        rw [← hl] at hp
        simp only [Option.map_eq_some_iff] at h
        obtain ⟨ys, h1, _⟩ := h
        obtain ⟨xs, h2, h3⟩ := fields_dv ih fs.toList 0 hp ys h1
        exact ⟨xs, h2, by simp only [Shape, hu]; exact h3⟩
      · cases h
     case array n e =>
      simp only [Bool.and_eq_true] at hp
      have hn := Nat.eq_of_beq_eq_true hp.2
      simp only at h
      split at h
      · rename_i hl
        simp only [Option.map_eq_some_iff] at h
        obtain ⟨ys, h1, _⟩ := h
        rw [List.range_eq_range'] at h1
        obtain ⟨xs, h2, h3⟩ := array_dv ih hp.1 n 0 (by rw [hl, hn]; simp) ys h1
        rw [Nat.zero_mul, List.drop_zero] at h2
        exact ⟨xs, h2, by simp only [Shape, hu]; exact h3⟩
      · cases h
def argA (P : Program) (t : TypeId) (xs : List DV) : AV := match P.underlying t with
 | some (.struct _) => .agg (xs.map .d)
 | some (.array _ _) => .agg (xs.map .d)
 | _ => match xs with
  | [x] => .d x
  | _ => .junk
theorem arg_rel {L : List TypeId} (hL : closedT P L = true) {t : TypeId} {v : Value} {x : DataW H} {ps : List MemPlace} {r : Reach} {b0 : Nat} (hp : memb t L = true) (ht : DataW.Trod enc P w base spare held t v x ps) (hv : Value.okWide P w r b0 t v) {h : Heap} {bs : List (Option (Nat × Nat))} :
 ∃ d xs, Shape P d t xs ∧ relA ⟨w, noFb, h, bs⟩ (argA P t xs) v := by
 obtain ⟨fuel, hf⟩ := ht
 obtain ⟨xs, h1, h2⟩ := trod_dv hL fuel t _ _ hp hf
 refine ⟨fuel, xs, h2, ?_⟩
 cases fuel with
 | zero => simp [DataW.trod] at hf
 | succ d =>
  have hp := closedT_ok hL hp
  unfold okT at hp
  cases hu : P.underlying t with
  | none => rw [hu] at hp; cases hp
  | some k =>
   rw [hu] at hp
   simp only [argA, hu]
   have one : (∀ cs, v ≠ .agg cs) → ∀ y, xs = [y] → relA ⟨w, noFb, h, bs⟩ (.d y) v := by
    intro hne y hy
    subst hy
    have : v.cells = #[v] := by cases v <;> first | rfl | exact (hne _ rfl).elim
    rw [this] at h1
    obtain ⟨v', us, e, h3, _⟩ := h1
    simp at e
    rw [← e.1] at h3
    simpa only [relA] using h3
   have agg : (∃ cs, v = .agg cs) → relA ⟨w, noFb, h, bs⟩ (.agg (xs.map .d)) v := by
    rintro ⟨cs, rfl⟩
    simp only [relA]
    exact ⟨cs, rfl, h1.relL⟩
   simp only [Shape, hu] at h2
   simp only [Value.okWide, hu] at hv
   cases k <;> simp only [reduceCtorEq, Bool.false_eq_true] at hp
   case bool =>
    obtain ⟨b, rfl⟩ := h2
    exact one (fun cs e => by subst e; simp [Cell.okWide, hu, Cell.ok] at hv) _ rfl
   case int =>
    obtain ⟨b, rfl, _⟩ := h2
    exact one (fun cs e => by subst e; simp [Cell.okWide, hu, Cell.ok] at hv) _ rfl
   case string =>
    obtain ⟨b, rfl, _⟩ := h2
    exact one (fun cs e => by subst e; simp [Cell.okWide, hu, Cell.ok] at hv) _ rfl
   case slice =>
    have hne : ∀ cs, v ≠ .agg cs := fun cs e => by subst e; simp [Cell.okWide, hu, Cell.ok] at hv
    rcases h2 with rfl | ⟨rows, rfl, _⟩
    · exact one hne _ rfl
    · exact one hne _ rfl
   case struct =>
    obtain ⟨cs, e, _⟩ := hv
    exact agg ⟨cs, e⟩
   case array =>
    obtain ⟨cs, e, _⟩ := hv
    exact agg ⟨cs, e⟩
end
section
variable {P : Program} {cfg : Cfg} {F : Nat → Option Fn}
theorem ok_start (W : World) : Ok ⟨W, noFb, [], []⟩ := ⟨rfl, fun i j b q q' h => by simp at h, fun b h => h.elim, fun i o h => by simp at h⟩
theorem deepOwn_bool {h : Heap} {v : AV} {b : Bool} (e : deepOwn 0 h v = some (B b)) : v = B b := by
 cases v with
 | d x => simp only [deepOwn, Option.some.injEq] at e; exact e
 | osl i g lo hi =>
  simp only [deepOwn] at e
  have : Nat.blt i 0 = false := by cases i <;> rfl
  rw [this] at e
  simp only [deep] at e
  split at e
  · split at e
    · rename_i nl g' sz rows _ _ _
      simp only [Option.map_some, Option.some.injEq, AV.d.injEq] at e
      unfold slOf at e
      split at e <;> cases e
    · cases e
  · cases e
 | ptr i c =>
  simp only [deepOwn] at e
  split at e
  · cases e
  · cases e
 | ept i g r c =>
  simp only [deepOwn] at e
  split at e
  · cases e
  · cases e
 | yld m num i =>
  simp only [deepOwn] at e
  split at e
  · cases e
  · cases e
 | rpt r c => simp [deepOwn] at e
 | agg cs => simp [deepOwn] at e
 | tup cs => simp [deepOwn] at e
 | fn m f a b =>
  simp only [deepOwn] at e
  split at e
  · cases e
  · cases e
 | ifc t v => simp [deepOwn] at e
 | junk => simp [deepOwn] at e
theorem call_lt (hF : FOk P cfg F) {n f : Nat} {xs : List AV} {r : CRes} (h : (ext F n).call f xs [] .no = some r) : f < 1048576 := by
 cases n with
 | zero => simp [ext] at h
 | succ n =>
  change bodyF F (ext F n) f xs [] .no = some r at h
  unfold bodyF at h
  split at h
  · cases h
  · unfold bodyR at h
    split at h
    · simp at h
    · cases h
  · rename_i g hg; exact (hF.known f g hg).1
  · rename_i c hc; exact (hF.code f c hc).1
theorem run_call (hF : FOk P cfg F) {f : Nat} {fn : Func} {body : Code} (hfn : P.funcs[f]? = some fn) (hb : fn.body = some body) (hn : (fn.name == "runtime.NumGoroutine") = false) {W : World} (gl : Glob cfg ⟨W, noFb, [], []⟩)
 {xs : List AV} {vals : Array Value} (hrel : relL ⟨W, noFb, [], []⟩ xs vals.toList) {b : Bool} (hr : Pur F f xs [] .no (.ret (B b)) .no) :
 Calls P f vals W fun e W' => e = .returned (.bool b) ∧ Below W.heap.size W W' := by
 obtain ⟨r, ⟨n, h1⟩, h2, h3⟩ := hr
 intro cs
 obtain ⟨c', e, ok', G, hh, hcr, hdone⟩ := (ext_ok hF n).1.fn f xs [] .no r (call_lt hF h1) h1 ⟨W, noFb, [], []⟩ vals .normal cs (ok_start W) gl rfl hrel ⟨rfl, rfl⟩
 have hret : r.r = .ret (B b) := by
  cases hrr : r.r with
  | ret v =>
   rw [hrr] at h2
   simp only [CR.map, Option.map_eq_some_iff, CR.ret.injEq] at h2
   obtain ⟨y, h4, rfl⟩ := h2
   rw [deepOwn_bool h4]
  | pan v =>
   rw [hrr] at h2
   simp [CR.map] at h2
 rw [hret] at hcr
 obtain ⟨v, rfl, hv⟩ := hcr
 simp only [relA, relD] at hv
 subst hv
 have hbel : Below W.heap.size W c'.w := ⟨G.os, G.tape, G.output, G.size, fun k hk => G.blk k hk fun ⟨i, q, ty, x, e, _⟩ => by simp at e⟩
 rcases hdone with ⟨_, fr, cs', hgo, _, hst, hf1, hk, hgoing⟩ | ⟨_, _, v', e1, e2⟩
 · cases hgo.normal
   obtain ⟨g1, g2, g3⟩ := hgoing
   exact ⟨_, c'.w, fr, ⟨rfl, hbel⟩, hst, hf1, g1, g2, hk, g3⟩
 · rw [run_callFunc hfn hb hn] at e2
   cases e2
end
end Go.Proofs.YtlhajccbfapieaaGreatDoor.Ab
