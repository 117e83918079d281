/- The run of the machine against the interpreter's: one operation. -/
import Derived.Test.YtlhajccbfapieaaGreatDoorAbCode
import Derived.Test.YtlhajccbfapieaaGreatDoorAbOpen
import Derived.Recover
namespace Go.Proofs.YtlhajccbfapieaaGreatDoor.Ab
open Go
set_option linter.unusedVariables false
set_option linter.unusedSimpArgs false
def Glob (cfg : Cfg) (c : Cx) : Prop := ∀ g row, cfg.glob g = some row → relD.relCells c.w c.Fb row g 0 ∧ (row ≠ [] → csize c.w g = row.length)
theorem Glob.stays {cfg : Cfg} {c c' : Cx} (h : Glob cfg c) (s : Stays c.w c.Fb c'.w c'.Fb) : Glob cfg c' := fun g row e => by
 obtain ⟨h1, h2⟩ := h g row e
 refine ⟨relCells_stays s row g 0 h1, fun hne => ?_⟩
 rw [← h2 hne]
 cases row with
 | nil => exact (hne rfl).elim
 | cons x xs =>
  simp only [relD.relCells] at h1
  obtain ⟨⟨hb, v, hc, _⟩, _⟩ := h1
  exact s.size g 0 v hb hc
theorem Glob.goes {cfg : Cfg} {c c' : Cx} (h : Glob cfg c) (ok : Ok c) (g : Goes c c') : Glob cfg c' := h.stays (g.stays ok)
def DRel (c : Cx) (f : Nat) (args : List AV) (d : Deferred) : Prop :=
 (f < 1048576 ∧ ∃ cap : Array Value, d.target = .fn (.func f) cap ∧ relL c args (d.args ++ cap).toList) ∨
  (f = 2097152 ∧ ∃ (m : Mode) (num j b : Nat), args = [.yld m num j] ∧ relA c (.yld m num j) (.func (.yield b) #[] #[]) ∧ d.target = .collected b)
theorem DRel.goes {c c' : Cx} (g : Goes c c') (ok : Ok c) {f : Nat} {args : List AV} {d : Deferred} (h : DRel c f args d) : DRel c' f args d := by
 rcases h with ⟨h1, cap, h2, h3⟩ | ⟨h1, m, num, j, b, h2, h3, h4⟩
 · exact .inl ⟨h1, cap, h2, relL_goes g ok _ _ h3⟩
 · exact .inr ⟨h1, m, num, j, b, h2, relA_goes g ok _ _ h3, h4⟩
def DsRel (c : Cx) : List (Mode × Nat × List AV) → List Deferred → Prop
 | [], ds => ds = []
 | (_, f, args) :: l, ds => ∃ (d : Deferred) (ds' : List Deferred), ds = d :: ds' ∧ DRel c f args d ∧ DsRel c l ds'
theorem DsRel.goes {c c' : Cx} (g : Goes c c') (ok : Ok c) : ∀ {l : List (Mode × Nat × List AV)} {ds : List Deferred}, DsRel c l ds → DsRel c' l ds
 | [], ds, h => h
 | (_, f, args) :: l, ds, h => by
  obtain ⟨d, ds', e, h1, h3⟩ := h
  exact ⟨d, ds', e, h1.goes g ok, DsRel.goes g ok h3⟩
structure Sim (cfg : Cfg) (n : Nat) (c : Cx) (st : St) (a : Go.Act) : Prop where
 h : c.h = st.h
 ok : Ok c
 glob : Glob cfg c
 size : n ≤ a.tmps.size
 tmp : ∀ t, t < n → relA c (st.fr t) (a.tmps.getD t undef)
 ds : DsRel c st.ds a.defers
def RcIs (ro : Option Nat) (kind : CallKind) (cs : List Frame) : Rec → Prop
 | .no => ro = none ∧ kind = .normal
 | .calm => ro = none ∧ kind = .deferred ∧ ∃ c rest, cs = c :: rest ∧ c.mode = .returning
 | .live v => ro = none ∧ kind = .deferred ∧ ∃ c rest u, cs = c :: rest ∧ c.mode = .panicking [⟨u, false, false⟩] ∧ ∀ x : Cx, relA x v u
 | .took => ro = none ∧ kind = .deferred ∧ ∃ c rest u, cs = c :: rest ∧ c.mode = .panicking [⟨u, true, false⟩]
 | .rnd => ro.isSome = true ∧ kind = .normal
theorem RcIs.none {ro : Option Nat} {kind : CallKind} {cs : List Frame} {rc : Rec} (h : RcIs ro kind cs rc) (hne : rc ≠ .rnd) : ro = .none := by
 cases rc with
 | rnd => exact (hne rfl).elim
 | _ => exact h.1
def CsGo (kind : CallKind) (cs cs' : List Frame) : Prop := cs' = cs ∨ (kind = .deferred ∧ ∃ c rest m, cs = c :: rest ∧ cs' = { c with mode := m } :: rest)
theorem CsGo.refl (kind : CallKind) (cs : List Frame) : CsGo kind cs cs := .inl rfl
theorem CsGo.trans {kind : CallKind} {a b c : List Frame} (h : CsGo kind a b) (k : CsGo kind b c) : CsGo kind a c := by
 rcases h with rfl | ⟨hk, x, rest, m, rfl, rfl⟩
 · exact k
 · rcases k with rfl | ⟨hk, y, rest', m', e, rfl⟩
   · exact .inr ⟨hk, x, rest, m, rfl, rfl⟩
   · cases e
     exact .inr ⟨hk, x, rest, m', rfl, rfl⟩
theorem CsGo.normal {a b : List Frame} (h : CsGo .normal a b) : b = a := by
 rcases h with h | ⟨h, _⟩
 · exact h
 · cases h
section
variable {P : Program} {cfg : Cfg} {n : Nat} {c : Cx} {st : St} {a : Go.Act}
theorem Sim.goes {c' : Cx} (s : Sim cfg n c st a) (g : Goes c c') (ok : Ok c') {h : Heap} (hh : c'.h = h) : Sim cfg n c' { st with h := h } a :=
 ⟨hh, ok, s.glob.goes s.ok g, s.size, fun t ht => relA_goes g s.ok _ _ (s.tmp t ht), s.ds.goes g s.ok⟩
theorem put_get {st : Nat → AV} {dst : Option Nat} {x : AV} (t : Nat) : put st dst x t = if dst = some t then x else st t := by
 cases dst with
 | none => simp [put]
 | some d =>
  simp only [put, upd]
  by_cases h : t = d
  · subst h; simp
  · have : Nat.beq t d = false := by cases hb : Nat.beq t d with
     | false => rfl
     | true => exact (h (Nat.eq_of_beq_eq_true hb)).elim
    rw [this, if_neg (by simp; omega)]
theorem Sim.put (s : Sim cfg n c st a) {dst : Option Nat} (hd : dstOk n dst = true) {x : AV} {v : Value} (h : relA c x v) : Sim cfg n c { st with fr := Ab.put st.fr dst x } (a.put dst v) := by
 refine ⟨s.h, s.ok, s.glob, ?_, fun t ht => ?_, ?_⟩
 · cases dst <;> simp [Act.put, s.size]
 · simp only [put_get]
   cases dst with
   | none => simpa [Act.put] using s.tmp t ht
   | some d =>
    have hd : d < n := Nat.le_of_ble_eq_true hd
    by_cases e : d = t
    · subst e
      simp only [if_true, Act.put]
      rw [Array.getD_eq_getD_getElem?, Array.getElem?_setIfInBounds_self_of_lt (Nat.lt_of_lt_of_le hd s.size)]
      exact h
    · simp only [Option.some.injEq, e, if_false, Act.put]
      rw [Array.getD_eq_getD_getElem?, Array.getElem?_setIfInBounds_ne e, ← Array.getD_eq_getD_getElem?]
      exact s.tmp t ht
 · cases dst <;> exact s.ds
theorem Sim.drew (s : Sim cfg n c st a) : Sim cfg n c.drew st a :=
 ⟨s.h, ok_drew s.ok, s.glob.goes s.ok goes_drew, s.size, fun t ht => relA_goes goes_drew s.ok _ _ (s.tmp t ht), s.ds.goes goes_drew s.ok⟩
theorem opd_rel (s : Sim cfg n c st a) {x : Operand} {y : Opd} (h : compOpd cfg n x = some y) : relA c (ev st.fr y) (a.eval x) := by
 unfold compOpd at h
 split at h
 · rename_i t
   split at h
   · rename_i ht
     cases h
     exact s.tmp t (Nat.le_of_ble_eq_true ht)
   · cases h
 · simp only [Option.map_eq_some_iff] at h
   obtain ⟨z, h1, rfl⟩ := h
   exact (compVal_rel h1).1
 · cases h
   simp only [ev, relA, Act.eval]
   exact ⟨#[], #[], rfl, rfl, rfl⟩
 · rename_i g
   split at h
   · rename_i row h1
     cases h
     simp only [ev, relA, Act.eval]
     exact ⟨g, 0, rfl, (s.glob g row h1).1⟩
   · cases h
     simp only [ev, relA]
theorem opds_rel (s : Sim cfg n c st a) : ∀ {xs : List Operand} {ys : List Opd}, compOpds cfg n xs = some ys → relL c (evs st.fr ys) (xs.map a.eval)
 | [], ys, h => by simp only [compOpds, Option.some.injEq] at h; subst h; rfl
 | x :: l, ys, h => by
  simp only [compOpds] at h
  split at h
  · rename_i y zs h1 h2
    cases h
    simp only [evs, List.map_cons]
    exact relL_cons.2 ⟨opd_rel s h1, opds_rel s h2⟩
  · cases h
theorem guard_rel (s : Sim cfg n c st a) {ops : Array Oper} {o : Oper} {gd : Option (Nat × Bool)} (h : compGd n ops o.guard = some gd) {i : Ins} (hi : i.gd = gd) {b : Bool} (hb : guarded i st = some b) :
 Region.wanted o (yielded ops a.tmps) = b := by
 unfold guarded at hb
 rw [hi] at hb
 unfold compGd at h
 unfold Region.wanted
 split at h
 · rename_i hg
   cases h
   simp only [Option.some.injEq] at hb
   simp [hg, hb]
 · rename_i j want hg
   split at h
   · rename_i o' ho'
     split at h
     · rename_i t ht
       split at h
       · rename_i hlt
         cases h
         simp only [hg]
         have hlt : t < n := Nat.le_of_ble_eq_true hlt
         have hr := s.tmp t hlt
         have hy : a.tmps[t]? = some (a.tmps.getD t undef) := by
          rw [Array.getD_eq_getD_getElem?, Array.getElem?_eq_getElem (Nat.lt_of_lt_of_le hlt s.size)]; rfl
         simp only [yielded, ho', Option.bind_some, ht, hy]
         simp only at hb
         generalize st.fr t = x at hr hb
         generalize a.tmps.getD t undef = v at hr
         unfold wanted at hb
         split at hb
         · rename_i b'
           simp only [relA, relD] at hr
           subst hr
           cases want <;> cases b' <;> simp at hb ⊢ <;> exact hb
         · simp only [relA] at hr
           obtain ⟨us, rfl, hr⟩ := hr
           simp only [Option.some.injEq] at hb
           subst hb
           simp
         · cases hb
       · cases h
     · cases h
   · cases h
def CallDone (P : Program) (c : Cx) (f : Nat) (vals : Array Value) (kind : CallKind) (cs : List Frame) (rc : Rec) (r : CRes) : Prop :=
 ∃ c' e, Ok c' ∧ Goes c c' ∧ c'.h = r.h ∧ CR.rel c' r.r e ∧
  (((callFunc f vals).run P c.w = .ok (.enter f vals) c.w ∧ ∃ fr cs', CsGo kind cs cs' ∧ RcIs none kind cs' r.rc ∧ Steps P (lone (Frame.enter P f vals kind) cs c.w) (lone fr cs' c'.w) ∧ fr.fn = f ∧ fr.kind = kind ∧ fr.going P c'.w e) ∨
    (rc = .no ∧ r.rc = .no ∧ ∃ v, e = .returned v ∧ (callFunc f vals).run P c.w = .ok (.value v) c'.w))
def YldDone (P : Program) (c : Cx) (l : Nat) (vals : List Value) (fr : Frame) (cs : List Frame) (r : CRes) : Prop :=
 ∃ (c' : Cx) (bv : Bool) (x : AV) (fn : FuncId) (tmps : Array Value) (asg body : Code), Ok c' ∧ Goes c c' ∧ c'.h = r.h ∧ r.r = .ret x ∧ relA c' x (.bool bv) ∧
  (Instr.yield l vals.toArray).run P c.w = .ok (.round l fn tmps asg body) c.w ∧
  Steps P (lone (Frame.round l fn tmps asg body .normal) (fr :: cs) c.w) (lone (fr.finish (.bool bv)) cs c'.w)
structure CallOk (P : Program) (cfg : Cfg) (X : CallF) : Prop where
 fn : ∀ f args h rc r, f < 1048576 → X f args h rc = some r → ∀ (c : Cx) (vals : Array Value) (kind : CallKind) (cs : List Frame), Ok c → Glob cfg c → c.h = h → relL c args vals.toList → RcIs none kind cs rc → CallDone P c f vals kind cs rc r
 yld : ∀ f args h rc r, 1048576 ≤ f → X f args h rc = some r → ∀ (c : Cx) (l : Nat) (vals : List Value) (fr : Frame) (cs : List Frame), Ok c → Glob cfg c → c.h = h → relL c args (.func (.yield l) #[] #[] :: vals) → YldDone P c l vals fr cs r
theorem callM_parts {X : CallF} {p : Bool} {m : Mode} {f : Nat} {args : List AV} {h : Heap} {rc : Rec} {r : CRes} (hm : callM X p m f args h rc = some r) :
 ∃ x r0, hand m h args = some x ∧ X f x.args x.h rc = some r0 ∧ back m h x r0 = some r := by
 unfold callM at hm
 split at hm
 · cases hm
 · cases hm
 · split at hm
   · rename_i x hx
     split at hm
     · cases hm
     · split at hm
       · rename_i r0 hr0
         split at hm
         · rename_i q hq
           have hqr : q = r := by
            split at hm
            · cases hm
            · exact Option.some.inj hm
           exact ⟨x, r0, hx, hr0, hqr ▸ hq⟩
         · cases hm
       · cases hm
   · cases hm
theorem callM_ok {X : CallF} (hX : CallOk P cfg X) {p : Bool} {m : Mode} {f : Nat} {args : List AV} {h : Heap} {rc : Rec} {r : CRes} (hm : callM X p m f args h rc = some r) {vals : Array Value} {kind : CallKind} {cs : List Frame}
 (hlt : f < 1048576) (ok : Ok c) (gl : Glob cfg c) (hh : c.h = h) (hargs : relL c args vals.toList) (hrc : RcIs none kind cs rc) : CallDone P c f vals kind cs rc r := by
 subst hh
 obtain ⟨x, r0, hx, hr0, hb⟩ := callM_parts hm
 obtain ⟨cc, hw, hch, okc, hrel, hst, hback⟩ := call_any ok hx hargs
 obtain ⟨c', e, ok', G, hh', hcr, hrun⟩ := hX.fn f x.args x.h rc r0 hlt hr0 cc vals kind cs okc (gl.stays hst) hch hrel hrc
 obtain ⟨c2, hw2, hh2, ok2, G2, hcr2, hrc2⟩ := hback c' r0 r e ok' G hh' hcr hb
 refine ⟨c2, e, ok2, G2, hh2, hcr2, ?_⟩
 rw [hw2, hrc2, ← hw]
 exact hrun
theorem callM_yld {X : CallF} (hX : CallOk P cfg X) {p : Bool} {m : Mode} {f : Nat} {args : List AV} {h : Heap} {rc : Rec} {r : CRes} (hm : callM X p m f args h rc = some r) {l : Nat} {vals : List Value}
 (hge : 1048576 ≤ f) (ok : Ok c) (gl : Glob cfg c) (hh : c.h = h) (hargs : relL c args (.func (.yield l) #[] #[] :: vals)) (fr : Frame) (cs : List Frame) : YldDone P c l vals fr cs r := by
 subst hh
 obtain ⟨x, r0, hx, hr0, hb⟩ := callM_parts hm
 obtain ⟨cc, hw, hch, okc, hrel, hst, hback⟩ := call_any ok hx hargs
 obtain ⟨c', bv, y, fn, tmps, asg, body, ok', G, hh', hr, hrel', hyld, hst'⟩ := hX.yld f x.args x.h rc r0 hge hr0 cc l vals fr cs okc (gl.stays hst) hch hrel
 obtain ⟨c2, hw2, hh2, ok2, G2, hcr2, _⟩ := hback c' r0 r (.returned (.bool bv)) ok' G hh' (by rw [hr]; exact ⟨_, rfl, hrel'⟩) hb
 rw [hw] at hyld hst'
 obtain ⟨z, hz1, hz2⟩ : ∃ z, r.r = .ret z ∧ relA c2 z (.bool bv) := by
  generalize r.r = q at hcr2
  cases q with
  | ret z => obtain ⟨v, e, h1⟩ := hcr2; cases e; exact ⟨z, rfl, h1⟩
  | pan z => obtain ⟨v, e, h1⟩ := hcr2; cases e
 refine ⟨c2, bv, z, fn, tmps, asg, body, ok2, G2, hh2, hz1, hz2, hyld, ?_⟩
 rw [hw2]
 exact hst'
end
end Go.Proofs.YtlhajccbfapieaaGreatDoor.Ab
