/- Regions that are run in any order: the interpreter ends in one state, whatever the order. -/
import Derived.Test.YtlhajccbfapieaaGreatDoorAbCode
import Derived.Orders
namespace Go.Proofs.YtlhajccbfapieaaGreatDoor.Ab
open Go
set_option linter.unusedVariables false
set_option linter.unusedSimpArgs false
def eff (X : Ext) (i : Ins) (vs : List AV) (h : Heap) : Option (AV × Heap) :=
 match opSem h i.act vs with
 | some (.v x h) => some (x, h)
 | some (.call p m f args) => match callM X.call p m f args h .no with
  | some ⟨.ret x, h, _⟩ => some (x, h)
  | _ => none
 | _ => none
def exec (X : Ext) (i : Ins) (st : St) : Option St :=
 match guarded i st with
 | some true => match clearI i.act st.fr st.h (evs st.fr i.xs) with
  | true => match eff X i (evs st.fr i.xs) st.h with
   | some (x, h) => some { st with fr := put st.fr i.dst x, h := h }
   | none => none
  | false => none
 | some false => some { st with fr := put st.fr i.dst (.tup []) }
 | none => none
theorem exec_runI (X : Ext) (i : Ins) (is : List Ins) (st stF : St) : runI X true (i :: is) st = some (.nor, stF) ↔ ∃ st1, exec X i st = some st1 ∧ runI X true is st1 = some (.nor, stF) := by
 simp only [runI, exec, eff, stepI]
 cases hg : guarded i st with
 | none => simp
 | some b =>
  cases b with
  | false => simp
  | true =>
   simp only
   cases hcl : clearI i.act st.fr st.h (evs st.fr i.xs) with
   | false => simp
   | true =>
   simp only
   cases ho : opSem st.h i.act (evs st.fr i.xs) with
   | none => simp
   | some r =>
    cases r with
    | v x h => simp
    | pan x => simp
    | call p m f args =>
     simp only
     cases hc : callM X.call p m f args st.h .no with
     | none => simp
     | some r =>
      obtain ⟨r, h, rc⟩ := r
      cases r with
      | ret x => simp
      | pan x => cases isD i.act <;> simp
    | dfr m f args => simp
    | recov => simp
theorem notDst_iff {d : Option Nat} {l : List Nat} (h : notDst d l = true) {t : Nat} (ht : t ∈ l) : d ≠ some t := by
 intro e
 subst e
 simp only [notDst, Bool.not_eq_true'] at h
 rw [memb_iff.2 ht] at h
 cases h
theorem otherDst_iff {d e : Option Nat} (h : otherDst d e = true) {t : Nat} (hd : d = some t) : e ≠ some t := by
 subst hd
 intro he
 subst he
 simp [otherDst] at h
theorem put_get' {f : Nat → AV} {dst : Option Nat} {x : AV} (t : Nat) : put f dst x t = if dst = some t then x else f t := by
 cases dst with
 | none => simp [put]
 | some d =>
  simp only [put, upd]
  by_cases h : t = d
  · subst h; simp
  · have : Nat.beq t d = false := by cases hb : Nat.beq t d with
     | false => rfl
     | true => exact (h (Nat.eq_of_beq_eq_true hb)).elim
    rw [this, if_neg (by simp; omega)]
theorem put_comm {f : Nat → AV} {d e : Option Nat} {x y : AV} (h : otherDst d e = true) : put (put f d x) e y = put (put f e y) d x := by
 funext t
 simp only [put_get']
 by_cases h1 : e = some t
 · by_cases h2 : d = some t
   · exact (otherDst_iff h h2 h1).elim
   · simp [h1, h2]
 · by_cases h2 : d = some t <;> simp [h1, h2]
theorem ev_put {f : Nat → AV} {d : Option Nat} {x : AV} {o : Opd} (h : ∀ t, o = .t t → d ≠ some t) : ev (put f d x) o = ev f o := by
 cases o with
 | t t => simp only [ev, put_get']; rw [if_neg (h t rfl)]
 | k v => rfl
theorem evs_put {f : Nat → AV} {d : Option Nat} {x : AV} : ∀ {l : List Opd}, (∀ t, (Opd.t t) ∈ l → d ≠ some t) → evs (put f d x) l = evs f l
 | [], _ => rfl
 | o :: l, h => by
  simp only [evs]
  rw [ev_put (fun t e => h t (by simp [e])), evs_put fun t ht => h t (by simp [ht])]
theorem uses_xs {i : Ins} {t : Nat} (h : (Opd.t t) ∈ i.xs) : t ∈ uses i := by
 have : t ∈ i.xs.filterMap (fun | .t s => some s | .k _ => none) := List.mem_filterMap.2 ⟨.t t, h, rfl⟩
 unfold uses
 split
 · exact List.mem_cons_of_mem _ this
 · exact this
theorem uses_gd {i : Ins} {g : Nat} {w : Bool} (h : i.gd = some (g, w)) : g ∈ uses i := by
 unfold uses
 rw [h]
 exact List.mem_cons_self
theorem evs_apart {i : Ins} {d : Option Nat} {f : Nat → AV} {x : AV} (h : notDst d (uses i) = true) : evs (put f d x) i.xs = evs f i.xs :=
 evs_put fun t ht => notDst_iff h (uses_xs ht)
theorem guarded_apart {i : Ins} {d : Option Nat} {st : St} {x : AV} {h' : Heap} (h : notDst d (uses i) = true) : guarded i { st with fr := put st.fr d x, h := h' } = guarded i st := by
 unfold guarded
 split
 · rfl
 · rename_i g w hg
   simp only [put_get']
   rw [if_neg (notDst_iff h (uses_gd hg))]
theorem clear_heap {i : Ins} (hi : isD i.act = false) {f : Nat → AV} {h : Heap} {vs : List AV} : clearI i.act f h vs = true := by
 unfold clearI
 split
 · rename_i hact; rw [hact] at hi; cases hi
 · rfl
def EffSwap (X : Ext) (x y : Ins) (vx vy : List AV) (h : Heap) : Prop :=
 ∀ a b h1 h2, eff X x vx h = some (a, h1) → eff X y vy h1 = some (b, h2) → ∃ h1', eff X y vy h = some (b, h1') ∧ eff X x vx h1' = some (a, h2)
theorem exec_cases {X : Ext} {i : Ins} {st st1 : St} (h : exec X i st = some st1) :
 (guarded i st = some true ∧ clearI i.act st.fr st.h (evs st.fr i.xs) = true ∧ ∃ a h', eff X i (evs st.fr i.xs) st.h = some (a, h') ∧ st1 = { st with fr := put st.fr i.dst a, h := h' }) ∨
 (guarded i st = some false ∧ st1 = { st with fr := put st.fr i.dst (.tup []) }) := by
 unfold exec at h
 split at h
 · rename_i hg
   split at h
   · rename_i hc
     split at h
     · rename_i a h' he; cases h; exact .inl ⟨hg, hc, a, h', he, rfl⟩
     · cases h
   · cases h
 · rename_i hg; cases h; exact .inr ⟨hg, rfl⟩
 · cases h
theorem exec_do {X : Ext} {i : Ins} {st : St} {a : AV} {h' : Heap} (hg : guarded i st = some true) (hc : clearI i.act st.fr st.h (evs st.fr i.xs) = true) (he : eff X i (evs st.fr i.xs) st.h = some (a, h')) :
 exec X i st = some { st with fr := put st.fr i.dst a, h := h' } := by simp only [exec, hg, hc, he]
theorem exec_skip {X : Ext} {i : Ins} {st : St} (hg : guarded i st = some false) : exec X i st = some { st with fr := put st.fr i.dst (.tup []) } := by simp only [exec, hg]
def exec0 (X : Ext) (i : Ins) (st : St) : Option St :=
 match guarded i st with
 | some true => match eff X i (evs st.fr i.xs) st.h with
  | some (x, h) => some { st with fr := put st.fr i.dst x, h := h }
  | none => none
 | some false => some { st with fr := put st.fr i.dst (.tup []) }
 | none => none
theorem exec0_of {X : Ext} {i : Ins} {st st1 : St} (h : exec X i st = some st1) : exec0 X i st = some st1 := by
 rcases exec_cases h with ⟨hg, hc, a, h', he, rfl⟩ | ⟨hg, rfl⟩
 · simp only [exec0, hg, he]
 · simp only [exec0, hg]
theorem exec0_cases {X : Ext} {i : Ins} {st st1 : St} (h : exec0 X i st = some st1) :
 (guarded i st = some true ∧ ∃ a h', eff X i (evs st.fr i.xs) st.h = some (a, h') ∧ st1 = { st with fr := put st.fr i.dst a, h := h' }) ∨
 (guarded i st = some false ∧ st1 = { st with fr := put st.fr i.dst (.tup []) }) := by
 unfold exec0 at h
 split at h
 · rename_i hg
   split at h
   · rename_i a h' he; cases h; exact .inl ⟨hg, a, h', he, rfl⟩
   · cases h
 · rename_i hg; cases h; exact .inr ⟨hg, rfl⟩
 · cases h
theorem exec0_do {X : Ext} {i : Ins} {st : St} {a : AV} {h' : Heap} (hg : guarded i st = some true) (he : eff X i (evs st.fr i.xs) st.h = some (a, h')) :
 exec0 X i st = some { st with fr := put st.fr i.dst a, h := h' } := by simp only [exec0, hg, he]
theorem exec0_skip {X : Ext} {i : Ins} {st : St} (hg : guarded i st = some false) : exec0 X i st = some { st with fr := put st.fr i.dst (.tup []) } := by simp only [exec0, hg]
theorem swap {X : Ext} {x y : Ins} (hs : slotsApart x y = true) (hx : isD x.act = false) {st st2 : St}
 (hm : guarded x st = some true → guarded y st = some true → EffSwap X x y (evs st.fr x.xs) (evs st.fr y.xs) st.h) {st1 : St} (h1 : exec X x st = some st1) (h2 : exec0 X y st1 = some st2) :
 ∃ st1', exec0 X y st = some st1' ∧ exec X x st1' = some st2 := by
 simp only [slotsApart, Bool.and_eq_true] at hs
 obtain ⟨⟨hxy, hyx⟩, hd⟩ := hs
 have same : ∀ (s : St) (f : Nat → AV), ({ s with fr := f } : St) = { s with fr := f, h := s.h } := fun s f => rfl
 rcases exec_cases h1 with ⟨hg, hc, a, ha, he, rfl⟩ | ⟨hg, rfl⟩
 · rcases exec0_cases h2 with ⟨hgy, b, hb, he2, rfl⟩ | ⟨hgy, rfl⟩
   · rw [guarded_apart hxy] at hgy
     simp only [evs_apart hxy] at he2
     obtain ⟨h1', e1, e2⟩ := hm hg hgy a b _ _ he he2
     refine ⟨_, exec0_do hgy e1, ?_⟩
     rw [exec_do (a := a) (h' := hb) (by rw [guarded_apart hyx]; exact hg) (clear_heap hx) (by simp only [evs_apart hyx]; exact e2), put_comm hd]
   · rw [guarded_apart hxy] at hgy
     refine ⟨_, exec0_skip hgy, ?_⟩
     rw [same, exec_do (a := a) (h' := ha) (by rw [guarded_apart hyx]; exact hg) (clear_heap hx) (by simp only [evs_apart hyx]; exact he), put_comm hd]
 · rcases exec0_cases h2 with ⟨hgy, b, hb, he2, rfl⟩ | ⟨hgy, rfl⟩
   · rw [same, guarded_apart hxy] at hgy
     simp only [evs_apart hxy] at he2
     refine ⟨_, exec0_do hgy he2, ?_⟩
     rw [exec_skip (by rw [guarded_apart hyx]; exact hg), put_comm hd]
   · rw [same, guarded_apart hxy] at hgy
     refine ⟨_, exec0_skip hgy, ?_⟩
     rw [same, exec_skip (by rw [guarded_apart hyx]; exact hg), put_comm hd]
end Go.Proofs.YtlhajccbfapieaaGreatDoor.Ab
