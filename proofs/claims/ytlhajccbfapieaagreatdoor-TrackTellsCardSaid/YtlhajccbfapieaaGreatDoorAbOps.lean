/- Each operation of the model against the interpreter's: loads and stores, new objects. -/
import Derived.Test.YtlhajccbfapieaaGreatDoorAbRel
import Derived.Laws.Cells
import Derived.Laws.IdiomCopy
import Derived.Laws.Entries
import Derived.ChangeKeysEq
namespace Go.Proofs.YtlhajccbfapieaaGreatDoor.Ab
open Go
set_option linter.unusedVariables false
set_option linter.unusedSimpArgs false
theorem relL_length {c : Cx} : ∀ {xs : List AV} {vs : List Value}, relL c xs vs → vs.length = xs.length
 | [], vs, h => by simp only [relA.relL] at h; simp [h]
 | x :: xs, vs, h => by
  simp only [relA.relL] at h
  obtain ⟨u, us, rfl, _, h2⟩ := h
  simp [relL_length h2]
theorem relL_get {c : Cx} : ∀ {xs : List AV} {vs : List Value}, relL c xs vs → ∀ (i : Nat) x, xs[i]? = some x → ∃ v, vs[i]? = some v ∧ relA c x v
 | [], vs, h, i, x, hx => by simp at hx
 | y :: xs, vs, h, i, x, hx => by
  simp only [relA.relL] at h
  obtain ⟨u, us, rfl, h1, h2⟩ := h
  cases i with
  | zero => simp at hx; subst hx; exact ⟨u, rfl, h1⟩
  | succ i => simpa using relL_get h2 i x (by simpa using hx)
theorem relL_mk {c : Cx} : ∀ {xs : List AV} {vs : List Value}, vs.length = xs.length → (∀ (i : Nat) x v, xs[i]? = some x → vs[i]? = some v → relA c x v) → relL c xs vs
 | [], vs, h, _ => by simp only [relA.relL]; exact List.eq_nil_of_length_eq_zero h
 | y :: xs, [], h, _ => by simp at h
 | y :: xs, v :: vs, h, hh => by
  simp only [relA.relL]
  exact ⟨v, vs, rfl, hh 0 y v rfl rfl, relL_mk (by simpa using h) fun i x u h1 h2 => hh (i + 1) x u (by simpa using h1) (by simpa using h2)⟩
theorem relL_append {c : Cx} {xs ys : List AV} {vs us : List Value} (h : relL c xs vs) (k : relL c ys us) : relL c (xs ++ ys) (vs ++ us) := by
 induction xs generalizing vs with
 | nil => simp only [relA.relL] at h; subst h; simpa using k
 | cons x xs ih =>
  simp only [relA.relL] at h
  obtain ⟨u, us', rfl, h1, h2⟩ := h
  simp only [List.cons_append, relA.relL]
  exact ⟨u, _, rfl, h1, ih h2⟩
theorem relL_take {c : Cx} {xs : List AV} {vs : List Value} (h : relL c xs vs) (n : Nat) : relL c (xs.take n) (vs.take n) := by
 induction xs generalizing vs n with
 | nil => simp only [relA.relL] at h; subst h; simp [relA.relL]
 | cons x xs ih =>
  simp only [relA.relL] at h
  obtain ⟨u, us', rfl, h1, h2⟩ := h
  cases n with
  | zero => simp [relA.relL]
  | succ n => simp only [List.take_succ_cons, relA.relL]; exact ⟨u, _, rfl, h1, ih h2 n⟩
theorem relL_drop {c : Cx} {xs : List AV} {vs : List Value} (h : relL c xs vs) (n : Nat) : relL c (xs.drop n) (vs.drop n) := by
 induction xs generalizing vs n with
 | nil => simp only [relA.relL] at h; subst h; simp [relA.relL]
 | cons x xs ih =>
  simp only [relA.relL] at h
  obtain ⟨u, us', rfl, h1, h2⟩ := h
  cases n with
  | zero => simp only [List.drop_zero, relA.relL]; exact ⟨u, us', rfl, h1, h2⟩
  | succ n => simpa using ih h2 n
theorem celly_one {c : Cx} {x : AV} {v : Value} (h : relA c x v) (hx : celly x = true) : v.oneCell' = true := by
 cases x with
 | d x =>
  cases x <;> simp only [relA, relD] at h <;> first | (subst h; rfl) | (obtain ⟨a, cap, rfl, _⟩ := h; rfl)
 | ptr => simp only [relA] at h; obtain ⟨_, b, _, rfl⟩ := h; rfl
 | ept => simp only [relA] at h; obtain ⟨a, _, _, _, _, _, _, rfl, _⟩ := h; rfl
 | rpt => simp only [relA] at h; obtain ⟨b, o, rfl, _⟩ := h; rfl
 | osl => simp only [relA] at h; obtain ⟨_, a, cap, _, _, _, _, _, _, rfl, _⟩ := h; rfl
 | fn => simp only [relA] at h; obtain ⟨vs, us, rfl, _⟩ := h; rfl
 | yld => simp only [relA] at h; obtain ⟨_, _, _, _, b, _, _, rfl⟩ := h; rfl
 | ifc => simp only [relA] at h; obtain ⟨u, rfl, _⟩ := h; rfl
 | _ => simp [celly] at hx
theorem cells_of_one {v : Value} (h : v.oneCell' = true) : v.cells = #[v] := by
 cases v <;> first | rfl | simp [Value.oneCell'] at h
theorem relL_cells {c : Cx} {x : AV} {v : Value} (h : relA c x v) (hx : (cellsOf x).all celly = true) : relL c (cellsOf x) v.cells.toList := by
 cases x with
 | agg cs => simp only [relA] at h; obtain ⟨vs, rfl, h⟩ := h; exact h
 | d y => rw [cells_of_one (celly_one h rfl)]; exact ⟨v, [], rfl, h, rfl⟩
 | ptr => rw [cells_of_one (celly_one h rfl)]; exact ⟨v, [], rfl, h, rfl⟩
 | ept => rw [cells_of_one (celly_one h rfl)]; exact ⟨v, [], rfl, h, rfl⟩
 | rpt => rw [cells_of_one (celly_one h rfl)]; exact ⟨v, [], rfl, h, rfl⟩
 | osl => rw [cells_of_one (celly_one h rfl)]; exact ⟨v, [], rfl, h, rfl⟩
 | fn => rw [cells_of_one (celly_one h rfl)]; exact ⟨v, [], rfl, h, rfl⟩
 | yld => rw [cells_of_one (celly_one h rfl)]; exact ⟨v, [], rfl, h, rfl⟩
 | ifc => rw [cells_of_one (celly_one h rfl)]; exact ⟨v, [], rfl, h, rfl⟩
 | tup => simp [cellsOf, celly] at hx
 | junk => simp [cellsOf, celly] at hx
theorem relL_one {c : Cx} {xs : List AV} {vs : List Value} (h : relL c xs vs) (hx : xs.all celly = true) : ∀ v ∈ vs, v.oneCell' = true := by
 intro v hv
 obtain ⟨i, hi⟩ := List.getElem?_of_mem hv
 have hl := relL_length h
 have hi' : i < xs.length := by rw [← hl]; exact (List.getElem?_eq_some_iff.1 hi).1
 obtain ⟨u, hu, hr⟩ := relL_get h i xs[i] (List.getElem?_eq_getElem hi')
 rw [hi] at hu
 cases hu
 exact celly_one hr (List.all_eq_true.1 hx _ (List.getElem_mem hi'))
theorem list_of_cells {α : Type} {w : World} {b o : Nat} {R : α → Value → Prop} : ∀ (cs : List α), (∀ (k : Nat) x, cs[k]? = some x → ∃ v, cel w b (o + k) = some v ∧ R x v) →
 ∃ vs : List Value, vs.length = cs.length ∧ (∀ (j : Nat) v, vs[j]? = some v → cel w b (o + j) = some v) ∧ ∀ (j : Nat) x v, cs[j]? = some x → vs[j]? = some v → R x v := by
 intro cs
 induction cs generalizing o with
 | nil => intro _; exact ⟨[], rfl, fun j v h => by simp at h, fun j x v h => by simp at h⟩
 | cons x cs ih =>
  intro h
  obtain ⟨v0, h0, r0⟩ := h 0 x rfl
  obtain ⟨vs, hl, hc, hr⟩ := ih (o := o + 1) fun k y hy => by
   have := h (k + 1) y (by simpa using hy)
   rwa [show o + (k + 1) = o + 1 + k by omega] at this
  refine ⟨v0 :: vs, by simp [hl], fun j v hj => ?_, fun j y v hy hv => ?_⟩
  · cases j with
    | zero => simp at hj; subst hj; simpa using h0
    | succ j => have := hc j v (by simpa using hj); rwa [show o + (j + 1) = o + 1 + j by omega]
  · cases j with
    | zero => simp at hy hv; subst hy hv; exact r0
    | succ j => exact hr j y v (by simpa using hy) (by simpa using hv)
section
variable {P : Program} {c : Cx}
def loadN (P : Program) (t : TypeId) : Option (Option Nat) :=
 match P.underlying t, P.info? t with
 | some (.struct _), some i | some (.array _ _), some i => some (some i.size)
 | some _, some _ => some none
 | _, _ => none
theorem add_plain (b o n : Nat) : (⟨b, o, none⟩ : Addr).add n = ⟨b, o + n, none⟩ := by
 unfold Addr.add; split <;> simp_all
theorem run_loadVar {t : TypeId} {n : Option Nat} (hn : loadN P t = some n) {w : World} {b o : Nat} :
 match n with
 | none => ∀ v, cel w b o = some v → (loadVar t ⟨b, o, none⟩).run P w = .ok v w
 | some n => ∀ vs : List Value, vs.length = n → (∀ (j : Nat) v, vs[j]? = some v → cel w b (o + j) = some v) → (loadVar t ⟨b, o, none⟩).run P w = .ok (.agg vs.toArray) w := by
 have key : ∀ (i : TypeInfo), P.info? t = some i → ∀ vs : List Value, vs.length = i.size → (∀ (j : Nat) v, vs[j]? = some v → cel w b (o + j) = some v) → (loadCells ⟨b, o, none⟩ i.size).run P w = .ok vs.toArray w := by
  intro i hi vs hl hc
  rw [← hl]
  exact run_loadCells_list w _ vs fun j v hv => by rw [add_plain]; exact hc j v hv
 have hsz : ∀ (i : TypeInfo), P.info? t = some i → (sizeOf t).run P w = .ok i.size w := by
  intro i hi; rw [run_sizeOf w hi]; simp [Program.cellsOf, hi]
 unfold loadN at hn
 split at hn
 · rename_i i hu hi
   cases hn
   intro vs hl hc
   simp [loadVar, isAgg, run_underlying hu, hsz _ hi, key _ hi vs hl hc, Result.andThen]
 · rename_i i hu hi
   cases hn
   intro vs hl hc
   simp [loadVar, isAgg, run_underlying hu, hsz _ hi, key _ hi vs hl hc, Result.andThen]
 · rename_i d i hns hna hu hi
   cases hn
   intro v hv
   have : (isAgg t).run P w = .ok false w := by
    simp only [isAgg, Sem.run_bind, run_underlying hu, Result.andThen]
    cases hu' : d <;> first | rfl | (exfalso; first | exact hns _ _ (by rw [hu, hu']) hi | exact hna _ _ _ (by rw [hu, hu']) hi)
   simp [loadVar, this, Result.andThen, run_load, show w.cell? ⟨b, o, none⟩ = some v from hv]
 · cases hn
theorem load_part {t : TypeId} {n : Option Nat} (hn : loadN P t = some n) {cs : List AV} {b o k : Nat} {x : AV}
 (hc : ∀ (j : Nat) y, cs[j]? = some y → ∃ v, cel c.w b (o + j) = some v ∧ relA c y v) (hp : part cs k n = some x) :
 ∃ u, (loadVar t ⟨b, o + k, none⟩).run P c.w = .ok u c.w ∧ relA c x u := by
 have hr := run_loadVar hn (w := c.w) (b := b) (o := o + k)
 cases n with
 | none =>
  simp only [part] at hp
  obtain ⟨v, hv, hrel⟩ := hc k x hp
  exact ⟨v, hr v hv, hrel⟩
 | some n =>
  simp only [part] at hp
  split at hp
  · rename_i hle
    cases hp
    have hle' : k + n ≤ cs.length := Nat.le_of_ble_eq_true hle
    obtain ⟨vs, hl, hcs, hrel⟩ := list_of_cells (w := c.w) (b := b) (o := o + k) (R := relA c) ((cs.drop k).take n) (by
     intro j y hy
     have h2 : cs[k + j]? = some y := by
      rw [List.getElem?_take] at hy
      split at hy
      · simpa using hy
      · cases hy
     obtain ⟨v, hv, hr⟩ := hc _ _ h2
     exact ⟨v, by rw [show o + k + j = o + (k + j) by omega]; exact hv, hr⟩)
    have hlen : ((cs.drop k).take n).length = n := by simp; omega
    refine ⟨_, hr vs (by rw [hl, hlen]) hcs, ?_⟩
    simp only [relA]
    exact ⟨vs.toArray, rfl, by simpa using relL_mk hl fun i y v h1 h2 => hrel i y v h1 h2⟩
  · cases hp
theorem partD_part {row : List DV} {k : Nat} {n : Option Nat} : partD row k n = part (row.map .d) k n := by
 cases n with
 | none => simp [partD, part]
 | some n => simp [partD, part, List.map_drop, List.map_take]
theorem load_partD {t : TypeId} {n : Option Nat} (hn : loadN P t = some n) {row : List DV} {b o k : Nat} {x : AV}
 (hc : ∀ (j : Nat) y, row[j]? = some y → ∃ v, cel c.w b (o + j) = some v ∧ relD c.w c.Fb y v) (hp : partD row k n = some x) :
 ∃ u, (loadVar t ⟨b, o + k, none⟩).run P c.w = .ok u c.w ∧ relA c x u := by
 rw [partD_part] at hp
 refine load_part hn (fun j y hy => ?_) hp
 simp only [List.getElem?_map, Option.map_eq_some_iff] at hy
 obtain ⟨z, hz, rfl⟩ := hy
 obtain ⟨v, hv, hr⟩ := hc j z hz
 exact ⟨v, hv, by simpa only [relA] using hr⟩
theorem s_load (ok : Ok c) {t : TypeId} {n : Option Nat} (hn : loadN P t = some n) {a x : AV} {v : Value} (ha : relA c a v) (hl : loadA c.h n a = some x) :
 ∃ u, (Instr.loadAt t v).run P c.w = .ok u c.w ∧ relA c x u := by
 unfold loadA at hl
 split at hl
 · rename_i i k
   split at hl
   · rename_i own ty cs ho
     simp only [relA] at ha
     obtain ⟨_, b, hb, rfl⟩ := ha
     have hO := ok.obj i _ ho
     simp only [relO] at hO
     obtain ⟨b', hb', _, _, _, _, _, hc⟩ := hO
     rw [hb] at hb'
     cases hb'
     obtain ⟨u, h1, h2⟩ := load_part (c := c) (b := b) (o := 0) hn (fun j y hy => by simpa using (hc j y hy).2) hl
     exact ⟨u, by simpa [Instr.loadAt, Instr.sureAddr, Result.andThen] using h1, h2⟩
   · cases hl
 · rename_i i g r k
   split at hl
   · rename_i own ty nl g' sz rows ho
     split at hl
     · rename_i hg
       have hg := Nat.eq_of_beq_eq_true hg
       subst hg
       split at hl
       · rename_i row hrow
         simp only [relA] at ha
         obtain ⟨a, _, _, _, _, _, _, rfl, ho', _, hcur⟩ := ha
         rw [ho] at ho'
         cases ho'
         obtain ⟨b, q, hb, rfl⟩ := hcur rfl
         have hO := ok.obj i _ ho
         simp only [relO] at hO
         rcases hO with ⟨_, rfl, _⟩ | ⟨_, b', q', hb', _, _, _, _, _, hc⟩
         · simp at hrow
         · rw [hb] at hb'
           cases hb'
           obtain ⟨u, h1, h2⟩ := load_partD (c := c) (b := b) (o := q + r * sz) hn (fun j y hy => (hc r row hrow).2 j y hy) hl
           exact ⟨u, by simpa [Instr.loadAt, Instr.sureAddr, Result.andThen] using h1, h2⟩
       · cases hl
     · cases hl
   · cases hl
 · rename_i row k
   simp only [relA] at ha
   obtain ⟨b, o, rfl, hr⟩ := ha
   rw [relCells_iff] at hr
   obtain ⟨u, h1, h2⟩ := load_partD (c := c) (b := b) (o := o) hn (fun j y hy => (hr j y hy).2) hl
   exact ⟨u, by simpa [Instr.loadAt, Instr.sureAddr, Result.andThen] using h1, h2⟩
 · cases hl
theorem Ok.noWrNew (ok : Ok c) {b : Nat} (h : Wr c b) : b < c.w.heap.size := ok.fbs b (ok.wrFb h)
def Cx.more (c : Cx) (o : Obj) (vs : Array Value) (e : TypeId) (fz : Nat × Nat) : Cx :=
 { w := c.w.alloc (.cells vs e fz), Fb := fun b => c.Fb b ∨ b = c.w.heap.size, h := c.h ++ [o], bs := c.bs ++ [some (c.w.heap.size, 0)] }
theorem heap_alloc_lt {w : World} {o : Go.Obj} {b : Nat} (h : b < w.heap.size) : (w.alloc o).heap[b]? = w.heap[b]? := by
 show (w.heap.push o)[b]? = _
 rw [Array.getElem?_push, if_neg (Nat.ne_of_lt h)]
theorem heap_alloc_new {w : World} {o : Go.Obj} : (w.alloc o).heap[w.heap.size]? = some o := by
 show (w.heap.push o)[w.heap.size]? = _
 rw [Array.getElem?_push, if_pos rfl]
theorem size_alloc {w : World} {o : Go.Obj} : (w.alloc o).heap.size = w.heap.size + 1 := by
 show (w.heap.push o).size = _
 simp
theorem getElem?_snoc_lt {α : Type} {l : List α} {a : α} {i : Nat} {x : α} (h : l[i]? = some x) : (l ++ [a])[i]? = some x := by
 rw [List.getElem?_append_left (List.getElem?_eq_some_iff.1 h).1]; exact h
theorem getElem?_snoc_cases {α : Type} {l : List α} {a : α} {i : Nat} {x : α} (h : (l ++ [a])[i]? = some x) : l[i]? = some x ∨ i = l.length ∧ x = a := by
 rcases Nat.lt_or_ge i l.length with hi | hi
 · rw [List.getElem?_append_left hi] at h; exact .inl h
 · rw [List.getElem?_append_right hi] at h
   rcases Nat.eq_or_lt_of_le hi with e | e
   · subst e; simp at h; exact .inr ⟨rfl, h.symm⟩
   · rw [List.getElem?_eq_none (by simp; omega)] at h; cases h
theorem goes_more (ok : Ok c) (o : Obj) (vs : Array Value) (e : TypeId) (fz : Nat × Nat) : Goes c (c.more o vs e fz) where
 os := rfl
 tape := rfl
 output := rfl
 size := by show _ ≤ (c.w.alloc _).heap.size; rw [size_alloc]; omega
 blk b hb _ := heap_alloc_lt hb
 wr b hb hw := by
  obtain ⟨i, q, ty, x, h1, h2⟩ := hw
  simp only [Cx.more] at h1 h2
  rcases getElem?_snoc_cases h1 with h1 | ⟨h1, _⟩
  · rw [List.getElem?_append_left (by rw [ok.len]; exact (List.getElem?_eq_some_iff.1 h1).1)] at h2
    exact ⟨i, q, ty, x, h1, h2⟩
  · rw [h1, List.getElem?_append_right (by rw [ok.len]; exact Nat.le_refl _), ok.len] at h2
    simp at h2
    omega
 fb b hb h := h.resolve_right (by omega)
 keep b hb _ := .inl hb
 place i b q hi := by
  rcases getElem?_snoc_cases (show (c.bs ++ [_])[i]? = _ from hi) with h | ⟨_, h⟩
  · exact .inl h
  · cases h; exact .inr (Nat.le_refl _)
 obj i x hx := ⟨x, getElem?_snoc_lt hx, .inl rfl, by
  have hi : (c.more o vs e fz).bs[i]? = c.bs[i]? := by
   simp only [Cx.more]
   exact List.getElem?_append_left (by rw [ok.len]; exact (List.getElem?_eq_some_iff.1 hx).1)
  rw [hi]
  cases hxb : x.b with
  | fix => simp [OB.goes]
  | lp => simp [OB.goes]
  | arr nl g sz rows =>
   simp only [OB.goes, Nat.le_refl, true_and, forall_const]
   intro b q hb
   refine csize_heap (heap_alloc_lt ?_)
   have := ok.obj i x hx
   simp only [relO, hxb] at this
   rcases this with ⟨_, _, h⟩ | ⟨_, b', q', h, hc, _⟩
   · rw [hb] at h; cases h
   · rw [hb] at h; cases h
     obtain ⟨_, _, hc⟩ := hc
     exact (Array.getElem?_eq_some_iff.1 hc).1⟩
theorem frozen_heap {w w' : World} {b : Nat} (h : w'.heap[b]? = w.heap[b]?) (o : Nat) : w'.frozen? ⟨b, o, none⟩ = w.frozen? ⟨b, o, none⟩ := by
 simp [World.frozen?, h]
theorem relO_goes {c' : Cx} (g : Goes c c') (ok : Ok c) {i : Nat} {o : Obj} (h : relO c i o) (hb : c'.bs[i]? = c.bs[i]?)
 (hblk : ∀ b q, c.bs[i]? = some (some (b, q)) → c'.w.heap[b]? = c.w.heap[b]?) (hfb : ∀ b q, c.bs[i]? = some (some (b, q)) → (c'.Fb b ↔ c.Fb b)) : relO c' i o := by
 unfold relO at h ⊢
 cases ho : o.b with
 | fix cs =>
  simp only [ho] at h ⊢
  obtain ⟨b, h1, ⟨x, fz, h2⟩, h3, h4, h5, h5', h6⟩ := h
  have hB := hblk b 0 h1
  refine ⟨b, by rw [hb]; exact h1, ⟨x, fz, by rw [hB]; exact h2⟩, by rw [csize_heap hB]; exact h3, fun k hk => by rw [frozen_heap hB]; exact h4 k hk, fun hn => (hfb b 0 h1).2 (h5 hn), fun hn hf => h5' hn ((hfb b 0 h1).1 hf), fun k x hx => ?_⟩
  obtain ⟨a1, v, a2, a3⟩ := h6 k x hx
  exact ⟨a1, v, by rw [cel_heap hB]; exact a2, relA_goes g ok x v a3⟩
 | arr nl gg sz rows =>
  simp only [ho] at h ⊢
  rcases h with ⟨h1, h2, h3⟩ | ⟨h0, b, q, h1, ⟨x, fz, h2⟩, h3, h4, h5, h5', h6⟩
  · exact .inl ⟨h1, h2, by rw [hb]; exact h3⟩
  · have hB := hblk b q h1
    refine .inr ⟨h0, b, q, by rw [hb]; exact h1, ⟨x, fz, by rw [hB]; exact h2⟩, by rw [csize_heap hB]; exact h3, fun k hk => by rw [frozen_heap hB]; rw [csize_heap hB] at hk; exact h4 k hk,
     fun hn => (hfb b q h1).2 (h5 hn), fun hn hf => h5' hn ((hfb b q h1).1 hf), fun r row hr => ⟨(h6 r row hr).1, fun k x hx => ?_⟩⟩
    obtain ⟨v, a2, a3⟩ := (h6 r row hr).2 k x hx
    exact ⟨v, by rw [cel_heap hB]; exact a2, relD_stays (g.stays ok) x v a3⟩
 | lp num s caps =>
  simp only [ho] at h ⊢
  obtain ⟨b, h1, h2, h3, vs, h4, h5⟩ := h
  have hB := hblk b 0 h1
  exact ⟨b, by rw [hb]; exact h1, Nat.lt_of_lt_of_le h2 g.size, fun hn => (hfb b 0 h1).2 (h3 hn), vs, relL_goes g ok caps vs h4, h5.heap hB⟩
theorem relO_block {i : Nat} {o : Obj} (h : relO c i o) {b q : Nat} (hb : c.bs[i]? = some (some (b, q))) (hne : ∀ n s l, o.b ≠ .lp n s l) : isCells c.w b := by
 unfold relO at h
 cases ho : o.b with
 | lp n s l => exact (hne n s l ho).elim
 | fix cs => simp only [ho] at h; obtain ⟨b', h1, h2, _⟩ := h; rw [hb] at h1; cases h1; exact h2.cells
 | arr nl gg sz rows =>
  simp only [ho] at h
  rcases h with ⟨_, _, h⟩ | ⟨_, b', q', h1, h2, _⟩
  · rw [hb] at h; cases h
  · rw [hb] at h1; cases h1; exact h2.cells
theorem isCells_lt {w : World} {b : Nat} (h : isCells w b) : b < w.heap.size := by
 obtain ⟨_, _, _, h⟩ := h
 exact (Array.getElem?_eq_some_iff.1 h).1
theorem Ok.block_lt (ok : Ok c) {i b q : Nat} (hb : c.bs[i]? = some (some (b, q))) : b < c.w.heap.size := by
 have hi : i < c.h.length := by rw [← ok.len]; exact (List.getElem?_eq_some_iff.1 hb).1
 have ho := ok.obj i _ (List.getElem?_eq_getElem hi)
 cases e : (c.h[i]).b with
 | fix cs => exact isCells_lt (relO_block ho hb (fun n s l h => by rw [e] at h; cases h))
 | arr nl g sz rows => exact isCells_lt (relO_block ho hb (fun n s l h => by rw [e] at h; cases h))
 | lp n s l =>
  unfold relO at ho
  rw [e] at ho
  obtain ⟨b', h1, h2, _⟩ := ho
  rw [hb] at h1; cases h1; exact h2
theorem ok_more (ok : Ok c) {o : Obj} {vs : Array Value} {e : TypeId} {fz : Nat × Nat} (ho : relO (c.more o vs e fz) c.h.length o) : Ok (c.more o vs e fz) where
 len := by simp [Cx.more, ok.len]
 apart i j b q q' hi hj := by
  simp only [Cx.more] at hi hj
  rcases getElem?_snoc_cases hi with h1 | ⟨h1, e1⟩ <;> rcases getElem?_snoc_cases hj with h2 | ⟨h2, e2⟩
  · exact ok.apart i j b q q' h1 h2
  · have := ok.block_lt h1; cases e2; omega
  · have := ok.block_lt h2; cases e1; omega
  · omega
 fbs b hb := by
  simp only [Cx.more] at hb ⊢
  rw [size_alloc]
  rcases hb with hb | hb
  · have := ok.fbs b hb; omega
  · omega
 obj i x hx := by
  rcases getElem?_snoc_cases (show (c.h ++ [o])[i]? = some x from hx) with h1 | ⟨h1, rfl⟩
  · have hi : i < c.bs.length := by rw [ok.len]; exact (List.getElem?_eq_some_iff.1 h1).1
    refine relO_goes (goes_more ok o vs e fz) ok (ok.obj i x h1) (by simp only [Cx.more]; exact List.getElem?_append_left hi) (fun b q hb => heap_alloc_lt (ok.block_lt hb)) fun b q hb => ?_
    simp only [Cx.more]
    constructor
    · rintro (h | h)
      · exact h
      · have := ok.block_lt hb; omega
    · exact .inl
  · rw [h1]; exact ho
theorem s_newfix (ok : Ok c) {cs : List AV} {vs : List Value} (e : TypeId) (h : relL c cs vs) (hc : cs.all celly = true) :
 Ok (c.more ⟨.mine, e, .fix cs⟩ vs.toArray e (0, 0)) := by
 refine ok_more ok ?_
 simp only [relO]
 have hl := relL_length h
 refine ⟨c.w.heap.size, by simp [Cx.more, ← ok.len], ⟨_, _, heap_alloc_new⟩, by simp only [csize, Cx.more]; rw [heap_alloc_new]; simp [hl], fun k hk => by simp only [World.frozen?, Cx.more]; rw [heap_alloc_new]; simp, fun _ => .inr rfl, fun h => (by cases h), fun k x hx => ?_⟩
 obtain ⟨v, hv, hr⟩ := relL_get h k x hx
 refine ⟨List.all_eq_true.1 hc x (List.mem_of_getElem? hx), v, ?_, relA_goes (goes_more ok _ _ _ _) ok x v hr⟩
 show cel (c.w.alloc _) _ _ = _
 rw [cel_eq (heap_alloc_new (w := c.w))]
 simpa using hv
theorem setCell_heap_ne {w : World} {a : Addr} {v : Value} {b : Nat} (h : a.block ≠ b) : (w.setCell a v).heap[b]? = w.heap[b]? := by
 simp only [World.setCell, Array.getElem?_modify]
 rw [if_neg h]
theorem setCell_heap_same {w : World} {b o : Nat} {v : Value} {x : Array Value} {e : TypeId} {fz : Nat × Nat} (h : w.heap[b]? = some (.cells x e fz)) :
 (w.setCell ⟨b, o, none⟩ v).heap[b]? = some (.cells (x.setIfInBounds o v) e fz) := by
 simp [World.setCell, Array.getElem?_modify, h]
theorem setCells_heap_ne {b b' : Nat} (h : b ≠ b') : ∀ (vs : List Value) (o : Nat) (w : World), (w.setCells b o vs).heap[b']? = w.heap[b']?
 | [], _, _ => rfl
 | v :: r, o, w => by rw [World.setCells, setCells_heap_ne h r (o + 1), setCell_heap_ne h]
theorem setCells_heap_same {b : Nat} {e : TypeId} {fz : Nat × Nat} : ∀ (vs : List Value) (o : Nat) (w : World) (x : Array Value), w.heap[b]? = some (.cells x e fz) →
 ∃ y, (w.setCells b o vs).heap[b]? = some (.cells y e fz) ∧ y.size = x.size
 | [], _, _, x, h => ⟨x, h, rfl⟩
 | v :: r, o, w, x, h => by
  obtain ⟨y, h1, h2⟩ := setCells_heap_same r (o + 1) _ _ (setCell_heap_same (o := o) (v := v) h)
  exact ⟨y, h1, by simpa using h2⟩
theorem setCells_size {b : Nat} : ∀ (vs : List Value) (o : Nat) (w : World), (w.setCells b o vs).heap.size = w.heap.size
 | [], _, _ => rfl
 | v :: r, o, w => by rw [World.setCells, setCells_size r]; simp [World.setCell]
theorem setCells_rest {b : Nat} : ∀ (vs : List Value) (o : Nat) (w : World), (w.setCells b o vs).os = w.os ∧ (w.setCells b o vs).tape = w.tape ∧ (w.setCells b o vs).output = w.output
 | [], _, _ => ⟨rfl, rfl, rfl⟩
 | v :: r, o, w => setCells_rest r (o + 1) (w.setCell ⟨b, o, none⟩ v)
theorem setCells_csize {b : Nat} {w : World} (hb : isCells w b) (vs : List Value) (o b' : Nat) : csize (w.setCells b o vs) b' = csize w b' := by
 obtain ⟨x, e, fz, h⟩ := hb
 by_cases hb' : b = b'
 · subst hb'
   obtain ⟨y, h1, h2⟩ := setCells_heap_same vs o w x h
   simp [csize, h1, h, h2]
 · exact csize_heap (setCells_heap_ne hb' vs o w)
theorem setCells_isCells {b : Nat} {w : World} (hb : isCells w b) (vs : List Value) (o : Nat) : isCells (w.setCells b o vs) b := by
 obtain ⟨x, e, fz, h⟩ := hb
 obtain ⟨y, h1, _⟩ := setCells_heap_same vs o w x h
 exact ⟨y, e, fz, h1⟩
theorem setCells_isT {b : Nat} {w : World} {e : TypeId} (hb : isT w b e) (vs : List Value) (o : Nat) : isT (w.setCells b o vs) b e := by
 obtain ⟨x, fz, h⟩ := hb
 obtain ⟨y, h1, _⟩ := setCells_heap_same vs o w x h
 exact ⟨y, fz, h1⟩
theorem splice_get {α : Type} {cs vs : List α} {k : Nat} (h : k + vs.length ≤ cs.length) (j : Nat) :
 (splice cs k vs)[j]? = if k ≤ j ∧ j < k + vs.length then vs[j - k]? else cs[j]? := by
 unfold splice
 by_cases h1 : j < k
 · rw [if_neg (by omega), List.append_assoc, List.getElem?_append_left (by simp; omega), List.getElem?_take_of_lt h1]
 · by_cases h2 : j < k + vs.length
   · rw [if_pos ⟨by omega, h2⟩, List.append_assoc, List.getElem?_append_right (by simp; omega), List.getElem?_append_left (by simp; omega)]
     simp only [List.length_take]
     congr 1
     omega
   · rw [if_neg (by omega), List.getElem?_append_right (by simp; omega), List.getElem?_drop]
     simp only [List.length_append, List.length_take]
     congr 1
     omega
theorem splice_length {α : Type} {cs vs : List α} {k : Nat} (h : k + vs.length ≤ cs.length) : (splice cs k vs).length = cs.length := by
 simp [splice]; omega
def Cx.wrote (c : Cx) (i b o : Nat) (us : List Value) (ty : Nat) (ob : OB) : Cx := { c with w := c.w.setCells b o us, h := c.h.set i ⟨.mine, ty, ob⟩ }
theorem getElem?_set_cases {α : Type} {l : List α} {a x : α} {i j : Nat} (h : (l.set i a)[j]? = some x) : (j = i ∧ x = a) ∨ (j ≠ i ∧ l[j]? = some x) := by
 by_cases hj : j = i
 · subst hj
   rw [List.getElem?_set_self' ] at h
   cases hl : l[j]? with
   | none => rw [hl] at h; cases h
   | some y => rw [hl] at h; simp at h; exact .inl ⟨rfl, h.symm⟩
 · rw [List.getElem?_set_ne (Ne.symm hj)] at h
   exact .inr ⟨hj, h⟩
theorem goes_wrote (ok : Ok c) {i b q o ty : Nat} {ob ob' : OB} (hi : c.h[i]? = some ⟨.mine, ty, ob⟩) (hb : c.bs[i]? = some (some (b, q))) (us : List Value)
 (hg : ∀ w', (∀ b', csize w' b' = csize c.w b') → ob.goes c.w w' c.bs[i]? c.bs[i]? ob') (hne : ∀ n s l, ob ≠ .lp n s l := by intro n s l h; cases h) : Goes c (c.wrote i b o us ty ob') := by
 have hcells := relO_block (ok.obj i _ hi) hb hne
 obtain ⟨r1, r2, r3⟩ := setCells_rest (b := b) us o c.w
 refine ⟨r1, r2, r3, Nat.le_of_eq (setCells_size us o c.w).symm, fun b' _ hn => setCells_heap_ne (fun e => by subst e; exact hn ⟨i, q, ty, ob, hi, hb⟩) us o c.w, fun b' _ hw => ?_, fun _ _ h => h, fun _ h _ => h, fun _ _ _ h => .inl h, fun j x hx => ?_⟩
 · obtain ⟨j, q', ty', x, h1, h2⟩ := hw
   rcases getElem?_set_cases (show (c.h.set i _)[j]? = some _ from h1) with ⟨rfl, e⟩ | ⟨_, h1⟩
   · exact ⟨j, q', ty, ob, hi, h2⟩
   · exact ⟨j, q', ty', x, h1, h2⟩
 · have hsz : ∀ b', csize (c.w.setCells b o us) b' = csize c.w b' := setCells_csize hcells us o
   by_cases hj : j = i
   · subst hj
     rw [hi] at hx
     cases hx
     refine ⟨⟨.mine, ty, ob'⟩, ?_, .inl rfl, hg _ hsz⟩
     simp only [Cx.wrote]
     rw [List.getElem?_set_self (List.getElem?_eq_some_iff.1 hi).1]
   · refine ⟨x, by simp only [Cx.wrote]; rw [List.getElem?_set_ne (Ne.symm hj)]; exact hx, .inl rfl, ?_⟩
     simp only [Cx.wrote]
     cases hxb : x.b with
     | fix => simp [OB.goes]
     | lp => simp [OB.goes]
     | arr => simp [OB.goes, hsz]
theorem ok_wrote (ok : Ok c) {i b q o ty : Nat} {ob ob' : OB} (hi : c.h[i]? = some ⟨.mine, ty, ob⟩) (hb : c.bs[i]? = some (some (b, q))) (us : List Value)
 (hg : ∀ w', (∀ b', csize w' b' = csize c.w b') → ob.goes c.w w' c.bs[i]? c.bs[i]? ob') (ho : relO (c.wrote i b o us ty ob') i ⟨.mine, ty, ob'⟩) (hne : ∀ n s l, ob ≠ .lp n s l := by intro n s l h; cases h) : Ok (c.wrote i b o us ty ob') where
 len := by simp [Cx.wrote, ok.len]
 apart := ok.apart
 fbs b' h := by simp only [Cx.wrote]; rw [setCells_size]; exact ok.fbs b' h
 obj j x hx := by
  rcases getElem?_set_cases (show (c.h.set i _)[j]? = some _ from hx) with ⟨rfl, rfl⟩ | ⟨hj, hx⟩
  · exact ho
  · exact relO_goes (goes_wrote ok hi hb us hg hne) ok (ok.obj j x hx) rfl
     (fun b' q' hb' => setCells_heap_ne (fun e => by subst e; exact hj (ok.apart j i _ q' q hb' hb)) us o c.w) fun _ _ _ => Iff.rfl
theorem storeVar_run {t : TypeId} {n : Nat} (hn : (P.info? t).map (·.size) = some n) {w : World} {b o : Nat} {v : Value} (hs : v.cells.size = n)
 (h1 : ∀ j, j < n → ∃ u, cel w b (o + j) = some u) (h2 : ∀ j, j < n → w.frozen? ⟨b, o + j, none⟩ = false) (h3 : ∀ u ∈ v.cells.toList, u.oneCell' = true) :
 (storeVar t ⟨b, o, none⟩ v).run P w = .ok () (w.setCells b o v.cells.toList) := by
 obtain ⟨i, hi, rfl⟩ := Option.map_eq_some_iff.1 hn
 have hst := run_storeCells_cells (P := P) b o v.cells.toList 0 w (fun j hj => by
  obtain ⟨u, hu⟩ := h1 j (by simpa [hs] using hj)
  rw [show o + 0 + j = o + j by omega]
  exact Option.isSome_iff_exists.2 ⟨u, hu⟩) (fun j hj => by rw [show o + 0 + j = o + j by omega]; exact h2 j (by simpa [hs] using hj)) h3
 simp only [storeVar, Sem.run_bind, run_sizeOf w hi, Result.andThen]
 rw [if_neg (by simp [Program.cellsOf, hi, hs])]
 simpa using hst
theorem all_celly_d (vs : List DV) : (vs.map AV.d).all celly = true := by
 simp [List.all_eq_true, celly]
theorem deepRow_eq : ∀ {xs : List AV} {vs : List DV}, deepRow xs = some vs → xs = vs.map .d
 | [], vs, h => by simp only [deepRow, Option.some.injEq] at h; subst h; rfl
 | .d x :: xs, vs, h => by
  simp only [deepRow, Option.map_eq_some_iff] at h
  obtain ⟨us, h1, rfl⟩ := h
  rw [deepRow_eq h1]; rfl
 | .ptr .. :: _, _, h | .ept .. :: _, _, h | .rpt .. :: _, _, h | .osl .. :: _, _, h | .agg .. :: _, _, h | .tup .. :: _, _, h | .fn .. :: _, _, h | .yld .. :: _, _, h | .ifc .. :: _, _, h | .junk :: _, _, h => by
  simp only [deepRow, reduceCtorEq] at h
theorem s_store (ok : Ok c) {t : TypeId} {n : Nat} (hn : (P.info? t).map (·.size) = some n) {a x : AV} {va vx : Value} (ha : relA c a va) (hx : relA c x vx) {h' : Heap}
 (hs : storeA c.h n x a = some h') : ∃ c', (Instr.storeAt t va vx).run P c.w = .ok () c'.w ∧ c'.h = h' ∧ Ok c' ∧ Goes c c' := by
 unfold storeA at hs
 split at hs
 · rename_i i k
   split at hs
   · rename_i ty cs ho
     split at hs
     · rename_i hcond
       simp only [Bool.and_eq_true] at hcond
       obtain ⟨⟨e1, e2⟩, e3⟩ := hcond
       have e1 := Nat.eq_of_beq_eq_true e1
       have e2 := Nat.le_of_ble_eq_true e2
       cases hs
       simp only [relA] at ha
       obtain ⟨_, b, hb, rfl⟩ := ha
       have hO := ok.obj i _ ho
       simp only [relO] at hO
       obtain ⟨b', hb', hiT, hsz, hfz, hfb, _, hc⟩ := hO
       have hic := hiT.cells
       rw [hb] at hb'
       cases hb'
       have hcl := relL_cells hx e3
       have hlen : vx.cells.size = n := by simpa [e1] using relL_length hcl
       have hrun := storeVar_run (P := P) hn (w := c.w) (b := b) (o := k) hlen
        (fun j hj => (cel_csize hic).1 (by omega)) (fun j hj => hfz _ (by omega)) (relL_one hcl e3)
       have hsp : k + (cellsOf x).length ≤ cs.length := by omega
       have hg : ∀ w', (∀ b', csize w' b' = csize c.w b') → (OB.fix cs).goes c.w w' c.bs[i]? c.bs[i]? (.fix (splice cs k (cellsOf x))) := fun w' _ => by
        simp [OB.goes, splice_length hsp]
       refine ⟨c.wrote i b k vx.cells.toList ty (.fix (splice cs k (cellsOf x))), by simpa [Instr.storeAt, Instr.sureAddr, Result.andThen, Cx.wrote] using hrun, rfl, ?_, goes_wrote ok ho hb _ hg⟩
       refine ok_wrote ok ho hb _ hg ?_
       have G := goes_wrote (o := k) ok ho hb vx.cells.toList hg
       simp only [relO]
       refine ⟨b, hb, setCells_isT hiT _ _, by rw [splice_length hsp]; exact (setCells_csize hic _ _ _).trans hsz, fun j hj => by
        simp only [Cx.wrote]; rw [World.frozen?_setCells]; exact hfz j (by rwa [splice_length hsp] at hj), fun h => hfb h, fun h => (by cases h), fun j y hy => ?_⟩
       rw [splice_get hsp] at hy
       split at hy
       · rename_i hin
         obtain ⟨u, hu, hr⟩ := relL_get hcl _ _ hy
         refine ⟨List.all_eq_true.1 e3 y (List.mem_of_getElem? hy), u, ?_, relA_goes G ok y u hr⟩
         have hj : j - k < vx.cells.toList.length := (List.getElem?_eq_some_iff.1 hu).1
         have := World.cell?_setCells_in b vx.cells.toList k c.w (fun j' hj' => Option.isSome_iff_exists.2 ((cel_csize hic).1 (by simp at hj'; omega))) (j - k) hj
         rw [show k + (j - k) = j by omega] at this
         simp only [Cx.wrote, cel]
         rw [this, ← List.getElem?_eq_getElem hj, hu]
       · rename_i hout
         obtain ⟨a1, u, a2, a3⟩ := hc j y hy
         refine ⟨a1, u, ?_, relA_goes G ok y u a3⟩
         simp only [Cx.wrote, cel]
         rw [World.cell?_setCells_out]
         · exact a2
         · intro _ _; simp; omega
     · cases hs
   · cases hs
 · rename_i i g r k
   split at hs
   · rename_i ty nl g' sz rows ho
     split at hs
     · rename_i hgg hrow hdr
       rename_i row vs
       have hgg := Nat.eq_of_beq_eq_true hgg
       subst hgg
       split at hs
       · rename_i hcond
         simp only [Bool.and_eq_true] at hcond
         obtain ⟨e1, e2⟩ := hcond
         have e1 := Nat.eq_of_beq_eq_true e1
         have e2 := Nat.le_of_ble_eq_true e2
         cases hs
         simp only [relA] at ha
         obtain ⟨a, _, _, _, _, _, _, rfl, ho', _, hcur⟩ := ha
         rw [ho] at ho'
         cases ho'
         obtain ⟨b, q, hb, rfl⟩ := hcur rfl
         have hO := ok.obj i _ ho
         simp only [relO] at hO
         rcases hO with ⟨_, rfl, _⟩ | ⟨hnn, b', q', hb', hiT, hsz, hfz, hfb, hfb', hc⟩
         · simp at hrow
         · rw [hb] at hb'
           cases hb'
           have hic := hiT.cells
           have hdr' := deepRow_eq hdr
           have hlv : (cellsOf x).length = vs.length := by rw [hdr']; simp
           have e3 : (cellsOf x).all celly = true := by rw [hdr']; exact all_celly_d vs
           have hcl := relL_cells hx e3
           have hlen : vx.cells.size = n := by have := relL_length hcl; simp at this; omega
           have hrl := (hc r row hrow).1
           have hrlt : r < rows.length := (List.getElem?_eq_some_iff.1 hrow).1
           have hroom : r * sz + sz ≤ rows.length * sz := by
            rw [← Nat.succ_mul]; exact Nat.mul_le_mul_right _ hrlt
           have hrun := storeVar_run (P := P) hn (w := c.w) (b := b) (o := q + r * sz + k) hlen
            (fun j hj => (cel_csize hic).1 (by omega)) (fun j hj => hfz _ (by omega)) (relL_one hcl e3)
           have hsp : k + vs.length ≤ row.length := by omega
           have hg : ∀ w', (∀ b', csize w' b' = csize c.w b') → (OB.arr nl g sz rows).goes c.w w' c.bs[i]? c.bs[i]? (.arr nl g sz (rows.set r (splice row k vs))) := fun w' hw' => by
            simp only [OB.goes, Nat.le_refl, true_and, List.length_set, forall_const]
            exact fun b o _ => hw' b
           refine ⟨c.wrote i b (q + r * sz + k) vx.cells.toList ty (.arr nl g sz (rows.set r (splice row k vs))), by simpa [Instr.storeAt, Instr.sureAddr, Result.andThen, Cx.wrote] using hrun, rfl, ?_, goes_wrote ok ho hb _ hg⟩
           refine ok_wrote ok ho hb _ hg ?_
           have G := goes_wrote (o := q + r * sz + k) ok ho hb vx.cells.toList hg
           simp only [relO]
           refine .inr ⟨fun ⟨h1, h2⟩ => hnn ⟨h1, by
            have := congrArg List.length h2
            simp at this
            exact this⟩, b, q, hb, setCells_isT hiT _ _, by
            simp only [List.length_set, Cx.wrote]; rw [setCells_csize hic]; exact hsz, fun j hj => by
            simp only [Cx.wrote] at hj ⊢; rw [World.frozen?_setCells]; rw [setCells_csize hic] at hj; exact hfz j hj, fun h => hfb h, fun h => (by cases h), fun r' row' hr' => ?_⟩
           rcases getElem?_set_cases hr' with ⟨rfl, rfl⟩ | ⟨hne, hr'⟩
           · refine ⟨by rw [splice_length hsp]; exact hrl, fun j y hy => ?_⟩
             rw [splice_get hsp] at hy
             split at hy
             · rename_i hin
               obtain ⟨u, hu, hr⟩ := relL_get hcl (j - k) (.d y) (by rw [hdr']; simp [hy])
               simp only [relA] at hr
               refine ⟨u, ?_, relD_stays (G.stays ok) y u hr⟩
               have hj : j - k < vx.cells.toList.length := (List.getElem?_eq_some_iff.1 hu).1
               have := World.cell?_setCells_in b vx.cells.toList (q + r' * sz + k) c.w (fun j' hj' => Option.isSome_iff_exists.2 ((cel_csize hic).1 (by simp at hj'; omega))) (j - k) hj
               rw [show q + r' * sz + k + (j - k) = q + r' * sz + j by omega] at this
               simp only [Cx.wrote, cel]
               rw [this, ← List.getElem?_eq_getElem hj, hu]
             · rename_i hout
               obtain ⟨u, a2, a3⟩ := (hc r' row hrow).2 j y hy
               refine ⟨u, ?_, relD_stays (G.stays ok) y u a3⟩
               simp only [Cx.wrote, cel]
               rw [World.cell?_setCells_out]
               · exact a2
               · intro _ _; simp; omega
           · refine ⟨(hc r' row' hr').1, fun j y hy => ?_⟩
             obtain ⟨u, a2, a3⟩ := (hc r' row' hr').2 j y hy
             refine ⟨u, ?_, relD_stays (G.stays ok) y u a3⟩
             simp only [Cx.wrote, cel]
             rw [World.cell?_setCells_out]
             · exact a2
             · intro _ _
               have hj : j < sz := by have := (hc r' row' hr').1; have := (List.getElem?_eq_some_iff.1 hy).1; omega
               simp only [Array.length_toList, hlen]
               rcases Nat.lt_or_gt_of_ne hne with h | h
               · left
                 have : r' * sz + sz ≤ r * sz := by rw [← Nat.succ_mul]; exact Nat.mul_le_mul_right _ h
                 omega
               · right
                 have : r * sz + sz ≤ r' * sz := by rw [← Nat.succ_mul]; exact Nat.mul_le_mul_right _ h
                 omega
       · cases hs
     · cases hs
   · cases hs
 · cases hs
end
end Go.Proofs.YtlhajccbfapieaaGreatDoor.Ab
