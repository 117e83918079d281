/- Regions that are run in any order: pairs. -/
import Derived.Test.YtlhajccbfapieaaGreatDoorAbDraw3
namespace Go.Proofs.YtlhajccbfapieaaGreatDoor.Ab
open Go
set_option linter.unusedVariables false
set_option linter.unusedSimpArgs false
section
variable {X : Ext} {x y : Ins} {vs us : List AV} {h h' : Heap} {a b : AV}
theorem eff_v {z : AV} {g : Heap} (e : opSem h x.act vs = some (.v z g)) : eff X x vs h = some (z, g) := by simp only [eff, e]
theorem iad_inv {sz : Nat} {r : OR} (e : opSem h (.iad sz) vs = some r) :
 (∃ sz' rows k n row, vs = [.d (.sl sz' rows), .d (.int k n)] ∧ Nat.beq sz sz' = true ∧ iget rows n = some row ∧ r = .v (.rpt row 0) h) ∨
 (∃ i g lo hi k n own ty nl g' sz' rows row, vs = [.osl i g lo hi, .d (.int k n)] ∧ h[i]? = some ⟨own, ty, .arr nl g' sz' rows⟩ ∧ (Nat.beq g g' && Nat.beq sz sz') = true ∧ iget ((rows.take hi).drop lo) n = some row ∧ r = .v (.ept i g (lo + n.toNat) 0) h) := by
 unfold opSem at e
 split at e <;> rename_i heq <;> (try cases heq)
 · split at e
   · rename_i row h1 h2; cases e; exact .inl ⟨_, _, _, _, _, rfl, h1, h2, rfl⟩
   · cases e
 · split at e
   · rename_i own ty nl g' sz' rows hi
     split at e
     · rename_i row h1 h2; cases e; exact .inr ⟨_, _, _, _, _, _, _, _, _, _, _, _, _, rfl, hi, h1, h2, rfl⟩
     · cases e
   · cases e
 · cases e
theorem load_inv {n : Option Nat} {r : OR} (e : opSem h (.load n) vs = some r) : ∃ p z, vs = [p] ∧ loadA h n p = some z ∧ r = .v z h ∧ force z = some z := by
 match vs, e with
 | [p], e =>
  simp only [opSem] at e
  obtain ⟨z, h1, rfl⟩ := val_eq e
  split at h1
  · rename_i z' hz
    have := force_eq h1
    subst this
    exact ⟨p, z, rfl, hz, rfl, h1⟩
  · cases h1
 | [], e => simp [opSem] at e
 | _ :: _ :: _, e => simp [opSem] at e
theorem load_mk {n : Option Nat} {p z : AV} (e : loadA h n p = some z) (f : force z = some z) : opSem h (.load n) [p] = some (.v z h) := by
 simp only [opSem, e, f, val]
theorem store_inv {n : Nat} {r : OR} (e : opSem h (.store n) vs = some r) : ∃ p v g, vs = [p, v] ∧ storeA h n v p = some g ∧ r = .v (.tup []) g := by
 match vs, e with
 | [p, v], e =>
  simp only [opSem] at e
  split at e
  · rename_i g hg; cases e; exact ⟨p, v, g, rfl, hg, rfl⟩
  · cases e
 | [], e => simp [opSem] at e
 | [_], e => simp [opSem] at e
 | _ :: _ :: _ :: _, e => simp [opSem] at e
theorem storeT_inv {n : Nat} {r : OR} (e : opSem h (.storeT n) vs = some r) : ∃ p v l u g, vs = [p, v] ∧ storeA (Ab.freeze h l) n u p = some g ∧ r = .v (.tup []) g := by
 match vs with
 | [p, v] =>
  simp only [opSem] at e
  split at e
  · split at e
    · rename_i u l h1
      split at e
      · rename_i g h2; cases e; exact ⟨_, v, l, u, g, rfl, h2, rfl⟩
      · cases e
    · cases e
  · split at e
    · rename_i g h2; cases e; exact ⟨p, v, [], v, g, rfl, h2, rfl⟩
    · cases e
 | [] => simp only [opSem, reduceCtorEq] at e
 | [_] => simp only [opSem, reduceCtorEq] at e
 | _ :: _ :: _ :: _ => simp only [opSem, reduceCtorEq] at e
theorem app_inv {ee sz bytes : Nat} {r : OR} (e : opSem h (.app ee sz bytes) vs = some r) : ∃ p v more z g, vs = [p, v] ∧ moreOf h sz v = some more ∧ appA ee sz bytes h more p = some (z, g) ∧ r = .v z g := by
 match vs, e with
 | [p, v], e =>
  simp only [opSem] at e
  split at e
  · rename_i more hm
    split at e
    · rename_i z g hg; cases e; exact ⟨p, v, more, z, g, rfl, hm, hg, rfl⟩
    · cases e
  · cases e
 | [], e => simp [opSem] at e
 | [_], e => simp [opSem] at e
 | _ :: _ :: _ :: _, e => simp [opSem] at e
theorem eff_later (hk : kindOf x.act = 1) (hl : later x.act = true) (e : eff X x vs h = some (a, h')) (o : Obj) : eff X x vs (h ++ [o]) = some (a, h ++ [o]) := by
 unfold eff at e
 generalize hact : x.act = act at hk hl e
 cases act <;> simp only [later, Bool.false_eq_true] at hl
 case load n =>
  split at e
  · rename_i z g ho
    obtain ⟨p, z', rfl, h1, h2, h3⟩ := load_inv ho
    cases h2
    cases e
    exact eff_v (by rw [hact]; exact load_mk (loadA_snoc h1) h3)
  · rename_i ho
    obtain ⟨p, z', rfl, h1, h2, h3⟩ := load_inv ho
    cases h2
  · cases e
 case iad sz =>
  split at e
  · rename_i z g ho
    rcases iad_inv ho with ⟨sz', rows, k, n, row, rfl, h1, h2, h3⟩ | ⟨i, g, lo, hi, k, n, own, ty, nl, g', sz', rows, row, rfl, h1, h2, h3, h4⟩
    · cases h3
      cases e
      exact eff_v (by rw [hact]; simp only [opSem, h1, h2])
    · cases h4
      cases e
      exact eff_v (by rw [hact]; simp only [opSem, snoc_get h1, h2, h3])
  · rename_i ho
    rcases iad_inv ho with ⟨sz', rows, k, n, row, rfl, h1, h2, h3⟩ | ⟨i, g, lo, hi, k, n, own, ty, nl, g', sz', rows, row, rfl, h1, h2, h3, h4⟩ <;> simp_all
  · cases e
 case call p =>
  have hp : p = true := by cases p <;> simp [kindOf] at hk ⊢
  subst hp
  split at e
  · rename_i b g ho
    cases vs with
    | nil => simp [opSem] at ho
    | cons v vs => obtain ⟨m, f, args, h1⟩ := fn_call ho; cases h1
  · rename_i p m f args ho
    cases vs with
    | nil => simp [opSem] at ho
    | cons v vs =>
     obtain ⟨m, f, args, h1⟩ := fn_call ho
     cases h1
     split at e
     · rename_i r g rc hc
       cases e
       have := (callM_true hc).2 o
       have ho' := call_heap (k := h ++ [o]) ho
       simp only [eff, hact, ho', this]
     · cases e
  · cases e
theorem eff_kind2 (hk : kindOf x.act = 2) (e : eff X x vs h = some (a, h')) : ∃ o, h' = h ++ [o] := by
 unfold eff at e
 generalize hact : x.act = act at hk e
 cases act <;> simp only [kindOf, reduceCtorEq, Nat.reduceEqDiff] at hk
 case bin op q => split at hk <;> cases hk
 case call p => cases p <;> simp at hk
 all_goals
  split at e
  · rename_i b g ho
    unfold opSem at ho
    split at ho <;> rename_i heq <;> (try cases heq)
    all_goals first
     | (cases ho; cases e; exact ⟨_, rfl⟩)
     | (repeat' split at ho) <;> (first | (cases ho; cases e; exact ⟨_, rfl⟩) | (cases ho; done))
  · rename_i p m f args ho
    unfold opSem at ho
    split at ho <;> rename_i heq <;> (try cases heq)
    all_goals first
     | (cases ho; done)
     | (repeat' split at ho) <;> (cases ho; done)
  · cases e
theorem set_ne {α : Type} {l : List α} {i j : Nat} {v : α} (h : i ≠ j) : (l.set j v)[i]? = l[i]? := List.getElem?_set_ne (Ne.symm h)
theorem set_eq {α : Type} {l : List α} {i : Nat} {v u : α} (h : l[i]? = some u) : (l.set i v)[i]? = some v := by
 rw [List.getElem?_set_self]; exact (List.getElem?_eq_some_iff.1 h).1
theorem beq_ne {i j : Nat} (h : Nat.beq i j = false) : i ≠ j := fun e => by subst e; simp at h
theorem part_splice {cs vs : List AV} {c d : Nat} {n : Option Nat} (hin : d + vs.length ≤ cs.length) (hap : c + n.getD 1 ≤ d ∨ d + vs.length ≤ c) : part (splice cs d vs) c n = part cs c n := by
 cases n with
 | none =>
  simp only [part]
  rw [splice_get hin, if_neg]
  simp only [Option.getD_none] at hap
  omega
 | some n =>
  simp only [part, splice_length hin]
  simp only [Option.getD_some] at hap
  cases hb : Nat.ble (c + n) cs.length with
  | false => rfl
  | true =>
   simp only [Option.some.injEq, AV.agg.injEq]
   apply List.ext_getElem?
   intro j
   by_cases hj : j < n
   · rw [List.getElem?_take_of_lt hj, List.getElem?_take_of_lt hj, List.getElem?_drop, List.getElem?_drop, splice_get hin, if_neg (by omega)]
   · rw [List.getElem?_eq_none (by simp; omega), List.getElem?_eq_none (by simp; omega)]
theorem storeA_get {m : Nat} {v p : AV} {g : Heap} (e : storeA h m v p = some g) :
 (∃ j d ty cs, p = .ptr j d ∧ h[j]? = some ⟨.mine, ty, .fix cs⟩ ∧ (cellsOf v).length = m ∧ d + m ≤ cs.length ∧ g = h.set j ⟨.mine, ty, .fix (splice cs d (cellsOf v))⟩) ∨
 (∃ j gen r d ty nl g' sz rows row vs, p = .ept j gen r d ∧ h[j]? = some ⟨.mine, ty, .arr nl g' sz rows⟩ ∧ rows[r]? = some row ∧ g = h.set j ⟨.mine, ty, .arr nl g' sz (rows.set r (splice row d vs))⟩) := by
 unfold storeA at e
 split at e
 · rename_i j d
   split at e
   · rename_i ty cs hj
     split at e
     · rename_i hb
       cases e
       simp only [Bool.and_eq_true] at hb
       have h1 := Nat.eq_of_beq_eq_true hb.1.1
       have h2 := Nat.le_of_ble_eq_true hb.1.2
       exact .inl ⟨j, d, ty, cs, rfl, hj, h1, h2, rfl⟩
     · cases e
   · cases e
 · rename_i j gen r d
   split at e
   · rename_i ty nl g' sz rows hj
     split at e
     · rename_i row vs h1 h2 h3
       split at e
       · cases e; exact .inr ⟨j, gen, r, d, ty, nl, g', sz, rows, row, vs, rfl, hj, h2, rfl⟩
       · cases e
     · cases e
   · cases e
 · cases e
theorem load_store {n : Option Nat} {m : Nat} {p q v z : AV} {g : Heap} (hap : apart p (n.getD 1) q m = true) (e : loadA h n p = some z) (s : storeA h m v q = some g) : loadA g n p = some z := by
 rcases storeA_get s with ⟨j, d, ty, cs, rfl, hj, hm, hd, rfl⟩ | ⟨j, gen, r, d, ty, nl, g', sz, rows, row, vs, rfl, hj, hr, rfl⟩
 · cases p <;> (try (simp only [loadA, reduceCtorEq] at e; done)) <;> simp only [apart, Bool.false_eq_true] at hap
   · rename_i i c
     by_cases hij : i = j
     · subst hij
       simp only [Nat.beq_refl, Bool.or_eq_true] at hap
       simp only [loadA, hj] at e
       simp only [loadA, set_eq hj]
       rw [part_splice (by rw [hm]; exact hd)]
       · exact e
       · rw [hm]
         rcases hap with h1 | h1
         · exact .inl (Nat.le_of_ble_eq_true h1)
         · exact .inr (Nat.le_of_ble_eq_true h1)
     · simp only [loadA, set_ne hij] at e ⊢; exact e
   · rename_i i g2 r2 c2
     have hij : i ≠ j := beq_ne (by simpa using hap)
     simp only [loadA, set_ne hij] at e ⊢; exact e
   · simpa only [loadA] using e
 · cases p <;> (try (simp only [loadA, reduceCtorEq] at e; done)) <;> simp only [apart, Bool.false_eq_true] at hap
   · rename_i i c
     have hij : i ≠ j := beq_ne (by simpa using hap)
     simp only [loadA, set_ne hij] at e ⊢; exact e
   · rename_i i g2 r2 c2
     by_cases hij : i = j
     · subst hij
       simp only [Nat.beq_refl, Bool.not_true, Bool.false_or, Bool.not_eq_true'] at hap
       have hrr : r2 ≠ r := beq_ne hap
       simp only [loadA, hj] at e
       simp only [loadA, set_eq hj, set_ne hrr]
       exact e
     · simp only [loadA, set_ne hij] at e ⊢; exact e
   · simpa only [loadA] using e
theorem load_app {n : Option Nat} {ee sz bytes : Nat} {p q z r : AV} {more : List (List DV)} {g : Heap} (hap : apart p (n.getD 1) q 0 = true) (e : loadA h n p = some z) (s : appA ee sz bytes h more q = some (r, g)) : loadA g n p = some z := by
 unfold appA at s
 split at s
 · split at s
   · cases s; exact loadA_snoc e
   · cases s
 · rename_i j gen lo hi
   split at s
   · rename_i ty nl g' sz' rows hj
     split at s
     · cases s
       cases p <;> (try (simp only [loadA, reduceCtorEq] at e; done)) <;> simp only [apart, Bool.false_eq_true] at hap
       · rename_i i c
         by_cases hij : i = j
         · subst hij; simp [loadA, hj] at e
         · simp only [loadA, set_ne hij] at e ⊢; exact e
       · have hij := beq_ne (by simpa using hap)
         simp only [loadA, set_ne hij] at e ⊢; exact e
       · simpa only [loadA] using e
     · cases s
   · cases s
 · cases s
theorem eff_load {n : Option Nat} (hact : x.act = .load n) (e : eff X x vs h = some (a, h')) : opSem h (.load n) vs = some (.v a h') := by
 unfold eff at e
 rw [hact] at e
 split at e
 · rename_i z g ho; cases e; exact ho
 · rename_i ho; obtain ⟨_, _, _, _, h5, _⟩ := load_inv ho; cases h5
 · cases e
theorem eff_iad {n : Nat} (hact : x.act = .iad n) (e : eff X x vs h = some (a, h')) : opSem h (.iad n) vs = some (.v a h') := by
 unfold eff at e
 rw [hact] at e
 split at e
 · rename_i z g ho; cases e; exact ho
 · rename_i ho; rcases iad_inv ho with ⟨_, _, _, _, _, _, _, _, h5⟩ | ⟨_, _, _, _, _, _, _, _, _, _, _, _, _, _, _, _, _, h5⟩ <;> cases h5
 · cases e
theorem eff_store {n : Nat} (hact : x.act = .store n) (e : eff X x vs h = some (a, h')) : opSem h (.store n) vs = some (.v a h') := by
 unfold eff at e
 rw [hact] at e
 split at e
 · rename_i z g ho; cases e; exact ho
 · rename_i ho; obtain ⟨_, _, _, _, _, h5⟩ := store_inv ho; cases h5
 · cases e
theorem eff_storeT {n : Nat} (hact : x.act = .storeT n) (e : eff X x vs h = some (a, h')) : opSem h (.storeT n) vs = some (.v a h') := by
 unfold eff at e
 rw [hact] at e
 split at e
 · rename_i z g ho; cases e; exact ho
 · rename_i ho; obtain ⟨_, _, _, _, _, _, _, h5⟩ := storeT_inv ho; cases h5
 · cases e
theorem eff_app {k n m : Nat} (hact : x.act = .app k n m) (e : eff X x vs h = some (a, h')) : opSem h (.app k n m) vs = some (.v a h') := by
 unfold eff at e
 rw [hact] at e
 split at e
 · rename_i z g ho; cases e; exact ho
 · rename_i ho; obtain ⟨_, _, _, _, _, _, _, _, h5⟩ := app_inv ho; cases h5
 · cases e
theorem cuta_inv {len sz : Nat} {lo hi : Bool} {vs : List AV} {h : Heap} {r : OR} (hr : opSem h (.cuta len sz lo hi) vs = some r) :
 ∃ i c ys own ty cs z, vs = .ptr i c :: ys ∧ h[i]? = some (⟨own, ty, .fix cs⟩ : Obj) ∧ r = .v z (h.set i ⟨.frozen, ty, .fix cs⟩) := by
 cases vs with
 | nil => simp only [opSem, reduceCtorEq] at hr
 | cons v ys =>
  cases v <;> try (simp only [opSem, reduceCtorEq] at hr; done)
  rename_i i c
  simp only [opSem] at hr
  split at hr
  · rename_i own ty cs hi
    split at hr
    · split at hr
      · cases hr; exact ⟨i, c, ys, own, ty, cs, _, rfl, hi, rfl⟩
      · cases hr
    · cases hr
  · cases hr
theorem loadA_shut {h : Heap} {i ty : Nat} {own : Own} {cs : List AV} (hi : h[i]? = some ⟨own, ty, .fix cs⟩) (n : Option Nat) (p : AV) : loadA (h.set i ⟨.frozen, ty, .fix cs⟩) n p = loadA h n p := by
 have hlt : i < h.length := (List.getElem?_eq_some_iff.1 hi).1
 cases p with
 | ptr j c =>
  by_cases hj : j = i
  · subst hj; simp only [loadA, List.getElem?_set_self hlt, hi]
  · simp only [loadA, List.getElem?_set_ne (Ne.symm hj)]
 | ept j g r c =>
  by_cases hj : j = i
  · subst hj; simp only [loadA, List.getElem?_set_self hlt, hi]
  · simp only [loadA, List.getElem?_set_ne (Ne.symm hj)]
 | _ => rfl
theorem eff_cuta {len sz : Nat} {lo hi : Bool} (hact : x.act = .cuta len sz lo hi) (e : eff X x vs h = some (a, h')) : opSem h (.cuta len sz lo hi) vs = some (.v a h') := by
 unfold eff at e
 rw [hact] at e
 split at e
 · rename_i z g ho; cases e; exact ho
 · rename_i ho; obtain ⟨_, _, _, _, _, _, _, _, _, h5⟩ := cuta_inv ho; cases h5
 · cases e
theorem freezeG {i : Nat} : ∀ (l : List Nat) {h : Heap} {o : Obj}, h[i]? = some o → ∃ own, (Ab.freeze h l)[i]? = some ⟨own, o.ty, o.b⟩
 | [], h, o, ho => ⟨o.own, ho⟩
 | j :: l, h, o, ho => by
  simp only [Ab.freeze]
  cases hj : h[j]? with
  | none => exact freezeG l ho
  | some p =>
   by_cases e : i = j
   · subst e
     rw [ho] at hj
     cases hj
     exact freezeG l (set_eq ho) (o := ⟨.frozen, o.ty, o.b⟩)
   · exact freezeG l (by rw [set_ne e]; exact ho)
theorem putBackG {i : Nat} : ∀ (is : List Nat) {os : Heap} {h h' : Heap}, putBack h is os = some h' → memb i is = false → h'[i]? = h[i]?
 | [], [], h, h', e, _ => by simp only [putBack, Option.some.injEq] at e; rw [e]
 | [], _ :: _, h, h', e, _ => by simp [putBack] at e
 | _ :: _, [], h, h', e, _ => by simp [putBack] at e
 | j :: is, o :: os, h, h', e, hm => by
  simp only [putBack] at e
  simp only [memb] at hm
  split at hm
  · cases hm
  · rename_i hb
    split at e
    · rw [putBackG is e hm, set_ne (beq_ne hb)]
    · cases e
theorem callM_frame {X : CallF} {m : Mode} {f : Nat} {args : List AV} {h : Heap} {rc : Rec} {r : CRes} (e : callM X false m f args h rc = some r) {fp : List Nat} (hf : reach h 100 (refs.refsL args) [] = some fp) {i : Nat} (hi : memb i fp = false)
 {o : Obj} (ho : h[i]? = some o) : ∃ own, r.h[i]? = some ⟨own, o.ty, o.b⟩ := by
 have key : ∃ x, hand m h args = some x ∧ ∃ r0, back m h x r0 = some r := by
  cases m <;>
  · simp only [callM] at e
    split at e
    · rename_i x hx
      refine ⟨x, hx, ?_⟩
      split at e
      · cases e
      · split at e
        · rename_i r0 hr
          split at e
          · rename_i q hb
            refine ⟨r0, ?_⟩
            rw [← Option.some.inj e]; exact hb
          · cases e
        · cases e
    · cases e
 obtain ⟨x, hx, r0, hb⟩ := key
 cases m with
 | pure =>
  simp only [back] at hb
  split at hb
  · split at hb
    · cases hb; exact freezeG _ ho
    · cases hb; exact ⟨o.own, ho⟩
  · cases hb
 | drop =>
  simp only [hand, handRest, hf] at hx
  split at hx
  · split at hx
    · cases hx
      simp only [back] at hb
      split at hb
      · split at hb
        · split at hb
          · rename_i h' hp
            cases hb
            exact ⟨o.own, by rw [putBackG _ hp hi]; exact ho⟩
          · cases hb
        · cases hb
      · cases hb
    · cases hx
  · cases hx
 | opn =>
  simp only [hand, handRest, hf] at hx
  split at hx
  · split at hx
    · cases hx
      simp only [back] at hb
      split at hb
      · split at hb
        · rename_i h' hp
          cases hb
          refine ⟨o.own, ?_⟩
          have : h'[i]? = some o := by rw [putBackG _ hp hi]; exact ho
          exact (List.getElem?_append_left (List.getElem?_eq_some_iff.1 this).1).trans this
        · cases hb
      · cases hb
    · cases hx
  · cases hx
theorem offA_loadA {h k : Heap} {fp : List Nat} (hk : ∀ i, memb i fp = false → ∀ o, h[i]? = some o → ∃ own, k[i]? = some (⟨own, o.ty, o.b⟩ : Obj)) {p : AV} (hp : offA fp p = true) {n : Option Nat} {z : AV} (e : loadA h n p = some z) : loadA k n p = some z := by
 cases p with
 | ptr i c =>
  simp only [offA, Bool.not_eq_true'] at hp
  simp only [loadA] at e ⊢
  split at e
  · rename_i hi
    obtain ⟨own, h2⟩ := hk i hp _ hi
    rw [h2]; exact e
  · cases e
 | ept i g r c =>
  simp only [offA, Bool.not_eq_true'] at hp
  simp only [loadA] at e ⊢
  split at e
  · rename_i hi
    obtain ⟨own, h2⟩ := hk i hp _ hi
    rw [h2]; exact e
  · cases e
 | rpt row c => exact e
 | _ => simp [loadA] at e
theorem offA_iad {h k : Heap} {fp : List Nat} (hk : ∀ i, memb i fp = false → ∀ o, h[i]? = some o → ∃ own, k[i]? = some (⟨own, o.ty, o.b⟩ : Obj)) {p : AV} (hp : offA fp p = true) {sz : Nat} {vs : List AV} {z : AV} (e : opSem h (.iad sz) (p :: vs) = some (.v z h)) :
 opSem k (.iad sz) (p :: vs) = some (.v z k) := by
 rcases iad_inv e with ⟨sz', rows, kk, n, row, h0, h1, h2, h3⟩ | ⟨i, g, lo, hi, kk, n, own, ty, nl, g', sz', rows, row, h0, h1, h2, h3, h4⟩
 · cases h0; cases h3; simp only [opSem, h1, h2]
 · cases h0; cases h4
   simp only [offA, Bool.not_eq_true'] at hp
   obtain ⟨own', h5⟩ := hk i hp _ h1
   simp only [opSem, h5, h2, h3]
theorem callD_sem {ls : List Nat} {h : Heap} {vs : List AV} {r : OR} (e : opSem h (.callD ls) vs = some r) : ∃ m f first cap args, vs = .fn m f first cap :: args ∧ r = .call false m f (first ++ args ++ cap) ∧ opSem h (.call false) vs = some r := by
 cases vs with
 | nil => simp [opSem] at e
 | cons v vs =>
  cases v <;> try (simp only [opSem, reduceCtorEq] at e; done)
  simp only [opSem] at e ⊢
  split at e
  · rename_i hb
    cases e
    exact ⟨_, _, _, _, _, rfl, rfl, rfl⟩
  · cases e
theorem eff_callD {ls : List Nat} (hact : x.act = .callD ls) (e : eff X x vs h = some (a, h')) : ∃ m f args rc, opSem h x.act vs = some (.call false m f args) ∧ callM X.call false m f args h .no = some ⟨.ret a, h', rc⟩ := by
 unfold eff at e
 rw [hact] at e
 have key : ∀ r, opSem h (.callD ls) vs = some r → ∃ m f args, r = .call false m f args := by
  intro r hr
  obtain ⟨m, f, first, cap, args, _, h2, _⟩ := callD_sem hr
  exact ⟨m, f, _, h2⟩
 split at e
 · rename_i ho; obtain ⟨_, _, _, h1⟩ := key _ ho; cases h1
 · rename_i p m f args ho
   obtain ⟨_, _, _, h1⟩ := key _ ho
   cases h1
   split at e
   · rename_i x0 h0 rc hc
     cases e
     exact ⟨m, f, args, rc, by rw [hact]; exact ho, hc⟩
   · cases e
 · cases e
theorem load_freeze {n : Option Nat} {p z : AV} (l : List Nat) (e : loadA h n p = some z) : loadA (Ab.freeze h l) n p = some z := by
 refine offA_loadA (fp := []) (fun i _ o ho => freezeG l ho) ?_ e
 cases p <;> first | rfl | (simp only [loadA, reduceCtorEq] at e)
theorem eff_st (hk : kindOf x.act = 3) (e : eff X x vs h = some (a, h')) : ∃ m q v l u, vs = [q, v] ∧ storeA (Ab.freeze h l) m u q = some h' ∧ opSem h x.act vs = some (.v a h') := by
 generalize hay : x.act = ay at hk
 cases ay <;> simp only [kindOf, reduceCtorEq, Nat.reduceEqDiff] at hk
 case bin op q => split at hk <;> cases hk
 case call p => cases p <;> simp at hk
 case store m =>
  have ho := eff_store hay e
  obtain ⟨q, v, g3, rfl, hst, h5⟩ := store_inv ho
  cases h5
  exact ⟨m, q, v, [], v, rfl, hst, ho⟩
 case storeT m =>
  have ho := eff_storeT hay e
  obtain ⟨q, v, l, u, g3, rfl, hst, h5⟩ := storeT_inv ho
  cases h5
  exact ⟨m, q, v, l, u, rfl, hst, ho⟩
theorem effSwap_of {is : List Ins} {chk : List (Nat × Nat × Nat × Nat)} {j i : Nat} (hm : memOk is chk j i x y = true) (hap : ∀ q, loadStore x y = some q → chk.any (beq4 q) = true → noDst q.1 (is.drop j) = true → noDst q.2.2.1 (is.drop i) = true → ∀ p r v rest, vs = p :: r → us = v :: rest → apart p q.2.1 v q.2.2.2 = true)
 (hD : ∀ t, lookD x y = some t → noDst t (is.drop j) = true → ∀ p r, vs = p :: r → ∀ m f args, opSem h y.act us = some (.call false m f args) → ∃ fp, reach h 100 (refs.refsL args) [] = some fp ∧ offA fp p = true) : EffSwap X x y vs us h := by
 intro a b k1 k2 e1 e2
 simp only [memOk, Bool.or_eq_true] at hm
 rcases hm with (((((((hm | hm) | hm) | hm) | hm) | hm) | hm) | hm) | hm
 · have hk := Nat.eq_of_beq_eq_true hm
   obtain ⟨rfl, q1⟩ := eff_kind0 hk e1
   exact ⟨k2, e2, q1 k2⟩
 · have hk := Nat.eq_of_beq_eq_true hm
   obtain ⟨rfl, q1⟩ := eff_kind0 hk e2
   exact ⟨h, q1 h, e1⟩
 · simp only [Bool.and_eq_true] at hm
   have hx := eff_kind1 (Nat.eq_of_beq_eq_true hm.1) e1
   subst hx
   have hy := eff_kind1 (Nat.eq_of_beq_eq_true hm.2) e2
   subst hy
   exact ⟨_, e2, e1⟩
 · simp only [Bool.and_eq_true] at hm
   have hk := Nat.eq_of_beq_eq_true hm.1.1
   have hx := eff_kind1 hk e1
   subst hx
   obtain ⟨o, rfl⟩ := eff_kind2 (Nat.eq_of_beq_eq_true hm.2) e2
   exact ⟨_, e2, eff_later hk hm.1.2 e1 o⟩
 · -- an element's place, and a store
   simp only [Bool.and_eq_true] at hm
   obtain ⟨hi, hk⟩ := hm
   have hk := Nat.eq_of_beq_eq_true hk
   generalize hax : x.act = ax at hi
   cases ax <;> simp only [isIad, Bool.false_eq_true] at hi
   rename_i sz
   have ho := eff_iad hax e1
   obtain ⟨m, q, v, l, u, rfl, hst, ho2⟩ := eff_st hk e2
   rcases iad_inv ho with ⟨sz', rows, k, n, row, rfl, i1, i2, i3⟩ | ⟨i, gg, lo, hi', k, n, own, ty, nl, g', sz', rows, row, rfl, i1, i2, i3, i4⟩
   · cases i3
     exact ⟨_, eff_v ho2, eff_v (by rw [hax]; simp only [opSem, i1, i2])⟩
   · cases i4
     refine ⟨_, eff_v ho2, eff_v ?_⟩
     rw [hax]
     obtain ⟨own0, i1⟩ := freezeG l i1
     simp only at i1
     have key : ∃ own2 ty2 rows2 row2, k2[i]? = some (⟨own2, ty2, .arr nl g' sz' rows2⟩ : Obj) ∧ iget ((rows2.take hi').drop lo) n = some row2 := by
      rcases storeA_get hst with ⟨j, d, ty3, cs, rfl, hj, _, _, rfl⟩ | ⟨j, gen, r, d, ty3, nl2, g2, sz2, rows2, row2, ws, rfl, hj, hr, rfl⟩
      · have hij : i ≠ j := fun e => by subst e; rw [hj] at i1; cases i1
        exact ⟨own0, ty, rows, row, by rw [set_ne hij]; exact i1, i3⟩
      · by_cases hij : i = j
        · subst hij
          rw [hj] at i1
          cases i1
          obtain ⟨n0, hn⟩ := iget_some i3
          have hlt := (List.getElem?_eq_some_iff.1 hn).1
          have hlt2 : n.toNat < (((rows.set r (splice row2 d ws)).take hi').drop lo).length := by simpa using hlt
          refine ⟨.mine, _, rows.set r (splice row2 d ws), (((rows.set r (splice row2 d ws)).take hi').drop lo)[n.toNat], set_eq hj, ?_⟩
          unfold iget; rw [if_pos n0, List.getElem?_eq_getElem hlt2]
        · exact ⟨own0, ty, rows, row, by rw [set_ne hij]; exact i1, i3⟩
     obtain ⟨own2, ty2, rows2, row2, q1, q2⟩ := key
     simp only [opSem, q1, i2, q2]
 · -- a load, and a store or an append
   split at hm
   · rename_i q hq
     simp only [Bool.and_eq_true] at hm
     have hap := hap q hq hm.1.1 hm.1.2 hm.2
     unfold loadStore at hq
     split at hq
     · rename_i n ta m tu rest hax hxx hay hyx
       cases hq
       have ho := eff_load hax e1
       have ho2 := eff_store hay e2
       obtain ⟨p, z, rfl, l1, l2, l3⟩ := load_inv ho
       cases l2
       obtain ⟨q, v, g3, rfl, hst, h5⟩ := store_inv ho2
       cases h5
       exact ⟨_, eff_v (by rw [hay]; exact ho2), eff_v (by rw [hax]; exact load_mk (load_store (hap p [] q [v] rfl rfl) l1 hst) l3)⟩
     · rename_i n ta m tu rest hax hxx hay hyx
       cases hq
       have ho := eff_load hax e1
       have ho2 := eff_storeT hay e2
       obtain ⟨p, z, rfl, l1, l2, l3⟩ := load_inv ho
       cases l2
       obtain ⟨q, v, l, u, g3, rfl, hst, h5⟩ := storeT_inv ho2
       cases h5
       exact ⟨_, eff_v (by rw [hay]; exact ho2), eff_v (by rw [hax]; exact load_mk (load_store (hap p [] q [v] rfl rfl) (load_freeze l l1) hst) l3)⟩
     · rename_i n ta ee sz bytes tu rest hax hxx hay hyx
       cases hq
       have ho := eff_load hax e1
       have ho2 := eff_app hay e2
       obtain ⟨p, z, rfl, l1, l2, l3⟩ := load_inv ho
       cases l2
       obtain ⟨q, v, more, z3, g3, rfl, hmo, hst, h5⟩ := app_inv ho2
       cases h5
       exact ⟨_, eff_v (by rw [hay]; exact ho2), eff_v (by rw [hax]; exact load_mk (load_app (hap p [] q [v] rfl rfl) l1 hst) l3)⟩
     · rename_i sz0 ta r0 ee sz bytes tu rest hax hxx hay hyx
       cases hq
       have ho := eff_iad hax e1
       have ho2 := eff_app hay e2
       obtain ⟨q, v, more, z3, g3, rfl, hmo, hst, h5⟩ := app_inv ho2
       cases h5
       rcases iad_inv ho with ⟨sz', rows, k, n, row, rfl, i1, i2, i3⟩ | ⟨i, gg, lo, hi', k, n, own, ty, nl, g', sz', rows, row, rfl, i1, i2, i3, i4⟩
       · cases i3
         exact ⟨_, eff_v (by rw [hay]; exact ho2), eff_v (by rw [hax]; simp only [opSem, i1, i2])⟩
       · cases i4
         have hap' := hap _ _ q [v] rfl rfl
         refine ⟨_, eff_v (by rw [hay]; exact ho2), eff_v ?_⟩
         rw [hax]
         have key : k2[i]? = some (⟨own, ty, .arr nl g' sz' rows⟩ : Obj) := by
          unfold appA at hst
          split at hst
          · split at hst
            · cases hst; exact snoc_get i1
            · cases hst
          · rename_i j gen lo2 hi2 _
            split at hst
            · rename_i ty2 nl2 g2 sz2 rows2 hj
              split at hst
              · cases hst
                have hij : i ≠ j := beq_ne (by simpa [apart] using hap')
                rw [set_ne hij]; exact i1
              · cases hst
            · cases hst
          · cases hst
         simp only [opSem, key, i2, i3]
     · cases hq
   · cases hm
 · -- a slice of an array, and a load
   simp only [Bool.and_eq_true] at hm
   obtain ⟨hc, hl⟩ := hm
   generalize hax : x.act = ax at hc
   generalize hay : y.act = ay at hl
   cases ax <;> simp only [isCuta, Bool.false_eq_true] at hc
   cases ay <;> simp only [isLoad, Bool.false_eq_true] at hl
   have ho := eff_cuta hax e1
   have ho2 := eff_load hay e2
   obtain ⟨i, c, ys, own, ty, cs, z0, rfl, hi, h5⟩ := cuta_inv ho
   cases h5
   obtain ⟨p, z, rfl, l1, l2, l3⟩ := load_inv ho2
   cases l2
   rw [loadA_shut hi] at l1
   exact ⟨h, eff_v (by rw [hay]; exact load_mk l1 l3), eff_v (by rw [hax]; exact ho)⟩
 · simp only [Bool.and_eq_true] at hm
   obtain ⟨hl, hc⟩ := hm
   generalize hax : x.act = ax at hl
   generalize hay : y.act = ay at hc
   cases ay <;> simp only [isCuta, Bool.false_eq_true] at hc
   cases ax <;> simp only [isLoad, Bool.false_eq_true] at hl
   have ho := eff_load hax e1
   have ho2 := eff_cuta hay e2
   obtain ⟨p, z, rfl, l1, l2, l3⟩ := load_inv ho
   cases l2
   obtain ⟨i, c, ys, own, ty, cs, z0, rfl, hi, h5⟩ := cuta_inv ho2
   cases h5
   exact ⟨_, eff_v (by rw [hay]; exact ho2), eff_v (by rw [hax]; exact load_mk (by rw [loadA_shut hi]; exact l1) l3)⟩
 · -- a look, and a call
   split at hm
   · rename_i ta hl
     unfold lookD at hl
     split at hl
     · rename_i n t0 ls hax hxx hay
       split at hl
       · cases hl
         have ho := eff_load hax e1
         obtain ⟨p, z, rfl, l1, l2, l3⟩ := load_inv ho
         cases l2
         obtain ⟨m, f, args, rc, c1, c2⟩ := eff_callD hay e2
         obtain ⟨fp, hf, hoff⟩ := hD _ (by unfold lookD; rw [hax, hxx, hay]; simp only; rename_i hb; rw [hb]) hm p [] rfl m f args c1
         refine ⟨_, e2, eff_v ?_⟩
         rw [hax]
         exact load_mk (offA_loadA (fun i hi o ho => callM_frame c2 hf hi ho) hoff l1) l3
       · cases hl
     · rename_i sz t0 r0 ls hax hxx hay
       split at hl
       · cases hl
         have ho := eff_iad hax e1
         have hh : k1 = h := by
          rcases iad_inv ho with ⟨_, _, _, _, _, _, _, _, i3⟩ | ⟨_, _, _, _, _, _, _, _, _, _, _, _, _, _, _, _, _, i4⟩
          · cases i3; rfl
          · cases i4; rfl
         subst hh
         obtain ⟨m, f, args, rc, c1, c2⟩ := eff_callD hay e2
         cases vs with
         | nil => simp [opSem] at ho
         | cons p r =>
          obtain ⟨fp, hf, hoff⟩ := hD _ (by unfold lookD; rw [hax, hxx, hay]; simp only; rename_i hb; rw [hb]) hm p r rfl m f args c1
          refine ⟨_, e2, eff_v ?_⟩
          rw [hax]
          exact offA_iad (fun i hi o ho => callM_frame c2 hf hi ho) hoff ho
       · cases hl
     · cases hl
   · cases hm
end
end Go.Proofs.YtlhajccbfapieaaGreatDoor.Ab
