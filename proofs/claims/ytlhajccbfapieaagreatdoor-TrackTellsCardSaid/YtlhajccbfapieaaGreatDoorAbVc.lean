/- What is to be shown of a run, in the run's own order: tests, lookups, calls and loops come to the front. -/
import Derived.Test.YtlhajccbfapieaaGreatDoorAbDefs
namespace Go.Proofs.YtlhajccbfapieaaGreatDoor.Ab
open Go
set_option linter.unusedVariables false
def CallF.le (X Y : CallF) : Prop := ∀ f args h rc r, X f args h rc = some r → Y f args h rc = some r
structure Ext.le (X Y : Ext) : Prop where
 call : CallF.le X.call Y.call
 loop : ∀ keep c st r, X.loop keep c st = some r → Y.loop keep c st = some r
theorem callM_le {X Y : CallF} (h : CallF.le X Y) {p : Bool} {m : Mode} {f : Nat} {args : List AV} {hp : Heap} {rc : Rec} {r : CRes} (e : callM X p m f args hp rc = some r) : callM Y p m f args hp rc = some r := by
 cases p <;> cases m <;> first
  | (simp only [callM, reduceCtorEq] at e; done)
  | (simp only [callM] at e ⊢
     split at e
     · split at e
       · cases e
       · split at e
         · rename_i r' hr; rw [h _ _ _ _ _ hr]; exact e
         · cases e
     · cases e)
theorem stepI_le {X Y : Ext} (h : Ext.le X Y) {d : Bool} {i : Ins} {st : St} {r : Ex × St} (e : stepI X d i st = some r) : stepI Y d i st = some r := by
 unfold stepI at e ⊢
 split at e
 · cases e
 split at e <;> try (first | exact e | (cases e; done))
 rename_i p m f args ho
 split at e
 · rename_i h1; rw [callM_le h.call h1]; exact e
 · rename_i h1; rw [callM_le h.call h1]; exact e
 · cases e
theorem runI_le {X Y : Ext} (h : Ext.le X Y) {d : Bool} : ∀ {is : List Ins} {st : St} {r : Ex × St}, runI X d is st = some r → runI Y d is st = some r
 | [], st, r, e => e
 | i :: is, st, r, e => by
  simp only [runI] at e ⊢
  split at e
  · split at e
    · rename_i st' h1
      rw [stepI_le h h1]
      exact runI_le h e
    · rename_i hne
      cases hs : stepI X d i st with
      | none => rw [hs] at e; cases e
      | some q =>
       rw [stepI_le h hs]
       rw [hs] at e
       cases e
       split
       · rename_i st' h2; cases h2; exact (hne st' hs).elim
       · rfl
  · exact runI_le h e
  · cases e
theorem runC_le {X Y : Ext} (h : Ext.le X Y) : ∀ {c : CC} {st : St} {r : Ex × St}, runC X c st = some r → runC Y c st = some r := by
 intro c
 induction c with
 | skip => intro st r e; exact e
 | reg o is =>
  intro st r e
  cases o with
  | none => simp only [runC] at e ⊢; exact runI_le h e
  | some chk =>
   simp only [runC] at e ⊢
   split at e
   · rename_i h1; rw [runI_le h h1]; exact e
   · rename_i h1; rw [runI_le h h1]; exact e
   · cases e
 | seq a b iha ihb =>
  intro st r e
  simp only [runC] at e ⊢
  split at e
  · rename_i st' h1; rw [iha h1]; exact ihb e
  · rename_i hne
    cases hs : runC X a st with
    | none => rw [hs] at e; cases e
    | some q =>
     rw [iha hs]
     rw [hs] at e
     cases e
     split
     · rename_i st' h2; cases h2; exact (hne st' hs).elim
     · rfl
 | cond c x y ihx ihy =>
  intro st r e
  simp only [runC] at e ⊢
  split at e
  · exact ihx e
  · exact ihy e
  · cases e
 | block id c ih =>
  intro st r e
  simp only [runC] at e ⊢
  split at e
  · rename_i id' st' h1; rw [ih h1]; exact e
  · rename_i hne
    cases hs : runC X c st with
    | none => rw [hs] at e; cases e
    | some q =>
     rw [ih hs]
     rw [hs] at e
     cases e
     split
     · rename_i id' st' h2; cases h2; exact (hne id' st' hs).elim
     · rfl
 | rng num keep f =>
  intro st r e
  simp only [runC] at e ⊢
  split at e
  · cases e
  · split at e
    · split at e
      · rename_i h1; rw [callM_le h.call h1]; exact e
      · cases e
    · cases e
  · cases e
 | loop keep c ih =>
  intro st r e
  simp only [runC] at e ⊢
  split at e
  · exact h.loop _ _ _ _ e
  · cases e
 | fgt keep => intro st r e; simp only [runC] at e ⊢; exact e
 | exit id => intro st r e; exact e
 | ret => intro st r e; exact e
 | bad => intro st r e; exact e
theorem unwind_le {X Y : CallF} (h : CallF.le X Y) : ∀ {ds : List (Mode × Nat × List AV)} {p : Option AV} {hp : Heap} {r : Option AV × Heap}, unwind X ds p hp = some r → unwind Y ds p hp = some r
 | [], p, hp, r, e => by cases p <;> simpa only [unwind] using e
 | (m, f, args) :: ds, none, hp, r, e => by
  simp only [unwind] at e ⊢
  split at e
  · split at e
    · exact unwind_le h e
    · cases e
  · split at e
    · rename_i h1; rw [callM_le h h1]; exact unwind_le h e
    · cases e
 | (m, f, args) :: ds, some v, hp, r, e => by
  simp only [unwind] at e ⊢
  split at e
  · split at e
    · exact unwind_le h e
    · cases e
  · split at e
    · rename_i h1; rw [callM_le h h1]; exact unwind_le h e
    · rename_i h1; rw [callM_le h h1]; exact unwind_le h e
    · cases e
theorem bodyR_le {X Y : Ext} (h : Ext.le X Y) {rf : RFn} {f : Nat} {args : List AV} {hp : Heap} {rc : Rec} {r : CRes} (e : bodyR X rf f args hp rc = some r) : bodyR Y rf f args hp rc = some r := by
 unfold bodyR at e ⊢
 split at e
 · split at e
   · split at e
     · split at e
       · rename_i h1
         rw [runC_le h h1]
         simp only
         split at e
         · split at e
           · rename_i h2; rw [runC_le h h2]; exact e
           · cases e
         · cases e
       · cases e
     · cases e
   · cases e
 · cases e
theorem finish_le {X Y : CallF} (h : CallF.le X Y) {res : List RV} {ex : Ex} {st : St} {r : CRes} (e : finish X res ex st = some r) : finish Y res ex st = some r := by
 cases ex with
 | exit id => cases e
 | pan v =>
  simp only [finish] at e ⊢
  split at e
  · rename_i h1; rw [unwind_le h h1]; exact e
  · rename_i h1; rw [unwind_le h h1]; exact e
  · cases e
 | nor =>
  simp only [finish] at e ⊢
  split at e
  · rename_i h1; rw [unwind_le h h1]; exact e
  · cases e
 | ret =>
  simp only [finish] at e ⊢
  split at e
  · rename_i h1; rw [unwind_le h h1]; exact e
  · cases e
variable {F : Nat → Option Fn}
theorem ext_succ : ∀ n, Ext.le (ext F n) (ext F (n + 1))
 | 0 => ⟨fun f args h rc r e => by simp [ext] at e, fun keep c st r e => by simp [ext] at e⟩
 | n + 1 => by
  have ih := ext_succ n
  constructor
  · intro f args h rc r e
    change bodyF F (ext F n) f args h rc = some r at e
    change bodyF F (ext F (n + 1)) f args h rc = some r
    simp only [bodyF] at e ⊢
    split at e
    · cases e
    · exact bodyR_le ih e
    · exact e
    · split at e
      · rename_i h1; rw [runC_le ih h1]; exact finish_le ih.call e
      · cases e
  · intro keep c st r e
    change loopF (ext F n) keep c st = some r at e
    change loopF (ext F (n + 1)) keep c st = some r
    simp only [loopF] at e ⊢
    split at e
    · rename_i st' h1
      rw [runC_le ih h1]
      simp only
      split at e
      · exact ih.loop _ _ _ _ e
      · cases e
    · rename_i hne
      cases hs : runC (ext F n) c st with
      | none => rw [hs] at e; cases e
      | some q =>
       rw [runC_le ih hs]
       rw [hs] at e
       cases e
       split
       · rename_i st' h2; cases h2; exact (hne st' hs).elim
       · rfl
theorem Ext.le.trans {X Y Z : Ext} (a : Ext.le X Y) (b : Ext.le Y Z) : Ext.le X Z := ⟨fun _ _ _ _ _ e => b.call _ _ _ _ _ (a.call _ _ _ _ _ e), fun _ _ _ _ e => b.loop _ _ _ _ (a.loop _ _ _ _ e)⟩
theorem ext_le {n m : Nat} (h : n ≤ m) : Ext.le (ext F n) (ext F m) := by
 induction h with
 | refl => exact ⟨fun _ _ _ _ _ e => e, fun _ _ _ _ e => e⟩
 | step _ ih => exact ih.trans (ext_succ _)
def CallsTo (F : Nat → Option Fn) (f : Nat) (args : List AV) (h : Heap) (rc : Rec) (r : CRes) : Prop := ∃ n, (ext F n).call f args h rc = some r
def LoopsTo (F : Nat → Option Fn) (keep : List Nat) (c : CC) (st : St) (ex : Ex) (st' : St) : Prop := ∃ n, (ext F n).loop keep c st = some (ex, st')
def RunsTo (F : Nat → Option Fn) (c : CC) (st : St) (ex : Ex) (st' : St) : Prop := ∃ n, runC (ext F n) c st = some (ex, st')
structure vb (b : Bool) (k : Bool → Prop) : Prop where
 out : k b
theorem vb_eq {b : Bool} {k : Bool → Prop} : vb b k = k b := propext ⟨fun h => h.out, fun h => ⟨h⟩⟩
theorem vb_t {b : Bool} {k : Bool → Prop} (h : b = true) (hk : k true) : vb b k := by rw [vb_eq, h]; exact hk
theorem vb_f {b : Bool} {k : Bool → Prop} (h : b = false) (hk : k false) : vb b k := by rw [vb_eq, h]; exact hk
theorem bt {b : Bool} {k : Bool → Prop} (hk : k true) (h : b = true := by first | exact rfl | assumption) : vb b k := vb_t h hk
theorem bf {b : Bool} {k : Bool → Prop} (hk : k false) (h : b = false := by first | exact rfl | assumption) : vb b k := vb_f h hk
theorem vb_i {b : Bool} {k : Bool → Prop} (h1 : b = true → k true) (h2 : b = false → k false) : vb b k := by
 rw [vb_eq]; cases b
 · exact h2 rfl
 · exact h1 rfl
structure vo {α : Type} (o : Option α) (k : α → Prop) : Prop where
 out : ∃ x, o = some x ∧ k x
theorem vo_eq {α : Type} {o : Option α} {k : α → Prop} : vo o k = ∃ x, o = some x ∧ k x := propext ⟨fun h => h.out, fun h => ⟨h⟩⟩
theorem vo_i {α : Type} {o : Option α} {k : α → Prop} {x : α} (h : o = some x) (hk : k x) : vo o k := ⟨⟨x, h, hk⟩⟩
structure vcall (F : Nat → Option Fn) (f : Nat) (args : List AV) (h : Heap) (rc : Rec) (k : CRes → Prop) : Prop where
 out : ∃ r, CallsTo F f args h rc r ∧ k r
theorem vcall_eq {f : Nat} {args : List AV} {h : Heap} {rc : Rec} {k : CRes → Prop} : vcall F f args h rc k = ∃ r, CallsTo F f args h rc r ∧ k r := propext ⟨fun h => h.out, fun h => ⟨h⟩⟩
theorem vcall_i {f : Nat} {args : List AV} {h : Heap} {rc : Rec} {k : CRes → Prop} {r : CRes} (hr : CallsTo F f args h rc r) (hk : k r) : vcall F f args h rc k := ⟨⟨r, hr, hk⟩⟩
structure vloop (F : Nat → Option Fn) (keep : List Nat) (c : CC) (st : St) (k : Ex → St → Prop) : Prop where
 out : ∃ ex st', LoopsTo F keep c st ex st' ∧ k ex st'
theorem vloop_eq {keep : List Nat} {c : CC} {st : St} {k : Ex → St → Prop} : vloop F keep c st k = ∃ ex st', LoopsTo F keep c st ex st' ∧ k ex st' := propext ⟨fun h => h.out, fun h => ⟨h⟩⟩
structure vor (A B : Prop) : Prop where
 out : A ∨ B
theorem vor_l {A B : Prop} (h : A) : vor A B := ⟨.inl h⟩
theorem vl {A B : Prop} (h : A) : vor A B := ⟨.inl h⟩
theorem vor_r {A B : Prop} (h : B) : vor A B := ⟨.inr h⟩
def vq {α : Type} (o : Option α) (k : α → Prop) : Prop := match o with
 | some x => k x
 | none => False
theorem vq_ok {α : Type} {o : Option α} {k : α → Prop} (h : vq o k) : ∃ x, o = some x ∧ k x := by
 cases o with
 | none => exact h.elim
 | some x => exact ⟨x, rfl, h⟩
theorem vo_ok {α : Type} {o : Option α} {k : α → Prop} (h : vo o k) : ∃ x, o = some x ∧ k x := by rw [vo_eq] at h; exact h
def vt (b : Bool) (k : Prop) : Prop := vb b fun
 | true => k
 | false => False
theorem vt_ok {b : Bool} {k : Prop} (h : vt b k) : b = true ∧ k := by
 unfold vt at h; rw [vb_eq] at h
 cases b
 · exact h.elim
 · exact ⟨rfl, h⟩
def vf (b : Bool) (k : Prop) : Prop := vb b fun
 | true => False
 | false => k
theorem vf_ok {b : Bool} {k : Prop} (h : vf b k) : b = false ∧ k := by
 unfold vf at h; rw [vb_eq] at h
 cases b
 · exact ⟨rfl, h⟩
 · exact h.elim
theorem stepI_n0 {X : Ext} {d : Bool} {i : Ins} {st st' : St} {ex : Ex} (h : stepI X d i st = some (ex, st')) : st'.n0 = st.n0 := by
 unfold stepI at h
 repeat' split at h
 all_goals first
  | (cases h; done)
  | (simp only [Option.some.injEq, Prod.mk.injEq] at h; obtain ⟨_, rfl⟩ := h; rfl)
theorem runI_n0 {X : Ext} {d : Bool} : ∀ {is : List Ins} {st st' : St} {ex : Ex}, runI X d is st = some (ex, st') → st'.n0 = st.n0
 | [], st, st', ex, h => by simp only [runI, Option.some.injEq, Prod.mk.injEq] at h; rw [h.2]
 | i :: is, st, st', ex, h => by
  simp only [runI] at h
  split at h
  · split at h
    · rename_i st1 h1; exact (runI_n0 h).trans (stepI_n0 h1)
    · exact stepI_n0 h
  · have := runI_n0 h; exact this
  · cases h
theorem gc_parts {keep : List Nat} {st st' : St} (h : gc keep st = some st') : ∃ fp g g' vs ds, reach st.h 1000 (upto st.n0 ++ frRefs st.fr keep ++ dsRefs st.ds) [] = some fp ∧ preOk st.n0 fp = true ∧ gather st.h fp = some g ∧
 gcv fp st.fr keep = some vs ∧ gcd fp st.ds = some ds ∧ renH (place · fp) id g = some g' ∧ st' = ⟨look vs, g', ds, st.rc, st.n0⟩ := by
 unfold gc at h
 split at h
 · rename_i fp h1
   split at h
   · rename_i g vs ds h2 h3 h4 h5
     split at h
     · rename_i g' h6
       cases h
       exact ⟨fp, g, g', vs, ds, h1, h2, h3, h4, h5, h6, rfl⟩
     · cases h
   · cases h
 · cases h
theorem gc_n0 {keep : List Nat} {st st' : St} (h : gc keep st = some st') : st'.n0 = st.n0 := by
 obtain ⟨fp, g, g', vs, ds, _, _, _, _, _, _, rfl⟩ := gc_parts h
 rfl
def LoopN0 (X : Ext) : Prop := ∀ keep c st ex st', X.loop keep c st = some (ex, st') → st'.n0 = st.n0
theorem runC_n0 {X : Ext} (hX : LoopN0 X) : ∀ (c : CC) (st : St) (ex : Ex) (st' : St), runC X c st = some (ex, st') → st'.n0 = st.n0 := by
 intro c
 induction c with
 | skip => intro st ex st' h; simp only [runC, Option.some.injEq, Prod.mk.injEq] at h; rw [h.2]
 | reg d is =>
  intro st ex st' h
  cases d with
  | none => simp only [runC] at h; exact runI_n0 h
  | some chk =>
   simp only [runC] at h
   split at h
   · rename_i h1
     split at h
     · cases h; exact runI_n0 h1
     · cases h
   · rename_i h1
     simp only [Option.some.injEq, Prod.mk.injEq] at h
     obtain ⟨_, rfl⟩ := h
     exact (runI_n0 h1 :)
   · cases h
 | seq a b iha ihb =>
  intro st ex st' h
  simp only [runC] at h
  split at h
  · rename_i st1 h1; exact (ihb _ _ _ h).trans (iha _ _ _ h1)
  · exact iha _ _ _ h
 | cond c x y ihx ihy =>
  intro st ex st' h
  simp only [runC] at h
  split at h
  · exact ihx _ _ _ h
  · exact ihy _ _ _ h
  · cases h
 | block id c ih =>
  intro st ex st' h
  simp only [runC] at h
  split at h
  · rename_i h1
    split at h
    · cases h; exact ih _ _ _ h1
    · cases h; exact ih _ _ _ h1
  · exact ih _ _ _ h
 | rng num keep f =>
  intro st ex st' h
  simp only [runC] at h
  split at h
  · cases h
  · split at h
    · split at h
      · split at h
        · cases h; rfl
        · cases h
      · cases h
    · cases h
  · cases h
 | loop keep c ih =>
  intro st ex st' h
  simp only [runC] at h
  split at h
  · rename_i h1; exact (hX _ _ _ _ _ h).trans (gc_n0 h1)
  · cases h
 | fgt keep =>
  intro st ex st' h
  simp only [runC] at h
  split at h
  · rename_i h1; cases h; exact gc_n0 h1
  · cases h
 | exit id => intro st ex st' h; simp only [runC, Option.some.injEq, Prod.mk.injEq] at h; rw [h.2]
 | ret => intro st ex st' h; simp only [runC, Option.some.injEq, Prod.mk.injEq] at h; rw [h.2]
 | bad => intro st ex st' h; simp [runC] at h
theorem loopF_n0 {X : Ext} {Y : CallF} (hX : LoopN0 X) : LoopN0 ⟨Y, loopF X⟩ := by
 intro keep c st ex st' h
 simp only [loopF] at h
 split at h
 · rename_i st1 h1
   split at h
   · rename_i st2 h2; exact (hX _ _ _ _ _ h).trans ((gc_n0 h2).trans (runC_n0 hX _ _ _ _ h1))
   · cases h
 · exact runC_n0 hX _ _ _ _ h
theorem ext_n0 {F : Nat → Option Fn} : ∀ {n : Nat}, LoopN0 (ext F n)
 | 0 => fun keep c st ex st' hr => by simp [ext] at hr
 | n + 1 => loopF_n0 ext_n0
end Go.Proofs.YtlhajccbfapieaaGreatDoor.Ab
