/- The run of the machine against the interpreter's: one operation, and many. -/
import Derived.Test.YtlhajccbfapieaaGreatDoorAbRun
import Derived.AtR
namespace Go.Proofs.YtlhajccbfapieaaGreatDoor.Ab
open Go
set_option linter.unusedVariables false
set_option linter.unusedSimpArgs false
section
variable {P : Program} {cfg : Cfg} {n : Nat} {c : Cx} {st : St} {a : Go.Act} {X : Ext}
variable {b : Frame} {k : List Item} {cs : List Frame} {ops : Array Oper} {i : Nat} {rest : List Nat} {o : Oper} {ins : Ins} {draw : Bool}
theorem undef_rel (c : Cx) : relA c (.tup []) undef := by simp [relA, undef, relA.relL]
theorem finish_op (ho : ops[i]? = some o) (v : Value) : (b.atR a (.inRegion ops (i :: rest) :: k)).finish v = b.atR (a.put o.dst v) (.inRegion ops rest :: k) := by
 rw [Frame.finish_atR, ho]; rfl
theorem skip_step (ho : ops[i]? = some o) (hc : compIns P cfg n ops draw o = some ins) (sim : Sim cfg n c st a) (hg : guarded ins st = some false) :
 Steps P (lone (b.atR a (.inRegion ops (i :: rest) :: k)) cs c.w) (lone (b.atR (a.put o.dst undef) (.inRegion ops rest :: k)) cs c.w) ∧ Sim cfg n c { st with fr := put st.fr ins.dst (.tup []) } (a.put o.dst undef) := by
 unfold compIns at hc
 split at hc
 · rename_i act opds hop
   split at hc
   · rename_i xs gd h1 h2 h3
     cases hc
     have hw := guard_rel sim h2 (i := ⟨o.dst, gd, act, xs⟩) rfl hg
     refine ⟨?_, sim.put h3 (undef_rel c)⟩
     have := stepR_op_skip (P := P) (b := b) (a := a) (k := k) (cs := cs) (w := c.w) (ops := ops) (i := i) (rest := rest) (by simp [ho, hw])
     rw [ho] at this
     exact .one this
   · cases hc
 · cases hc
theorem dfr_only {h : Heap} {xs : List AV} {r : OR} (hr : opSem h .dfr xs = some r) : ∃ m f args, f < 1048576 ∧ r = .dfr m f args := by
 cases xs with
 | nil => simp [opSem] at hr
 | cons a ys =>
  cases a <;> try (simp only [opSem, reduceCtorEq] at hr; done)
  simp only [opSem] at hr
  split at hr
  · rename_i h1; cases hr; exact ⟨_, _, _, blt_lt h1, rfl⟩
  · cases hr
theorem sem_eq {d : Bool} {act : Act} {opds : List Operand} {dst : Option Nat} {gd : Option (Nat × Bool)} {xs : List Opd} (hop : compOp P cfg draw o.op = some (act, opds)) (hrc : RcIs b.roundOf b.kind cs st.rc) {q : Ex × St}
 (hs : stepI X d ⟨dst, gd, act, xs⟩ st = some q) : o.semAt b.roundOf a.eval = execOp a.eval o := by
 by_cases hro : st.rc = .rnd
 · refine Oper.semAt_eq _ _ _ fun cl e => ?_
   rw [e] at hop
   simp only [compOp] at hop
   split at hop
   · cases hop
     unfold stepI at hs
     simp only [clearI] at hs
     split at hs
     · rename_i h1; obtain ⟨_, _, _, _, h2⟩ := dfr_only h1; cases h2
     · rename_i h1; obtain ⟨_, _, _, _, h2⟩ := dfr_only h1; cases h2
     · rename_i h1; obtain ⟨_, _, _, _, h2⟩ := dfr_only h1; cases h2
     · rw [hro] at hs
       cases d <;> cases hs
     · rename_i h1; obtain ⟨_, _, _, _, h2⟩ := dfr_only h1; cases h2
     · cases hs
   all_goals cases hop
 · rw [hrc.none hro]; rfl
theorem op_step {d : Bool} (hX : CallOk P cfg X.call) (ho : ops[i]? = some o) (hc : compIns P cfg n ops draw o = some ins) (sim : Sim cfg n c st a) (hrc : RcIs b.roundOf b.kind cs st.rc) (hg : guarded ins st = some true) {ex : Ex} {st1 : St}
 (hs : stepI X d ins st = some (ex, st1)) :
 (ex = .nor ∧ ∃ a1 c1 cs1, Steps P (lone (b.atR a (.inRegion ops (i :: rest) :: k)) cs c.w) (lone (b.atR a1 (.inRegion ops rest :: k)) cs1 c1.w) ∧ Sim cfg n c1 st1 a1 ∧ Goes c c1 ∧ CsGo b.kind cs cs1 ∧ RcIs b.roundOf b.kind cs1 st1.rc) ∨
 (∃ v u c1 todo, ex = .pan v ∧ Steps P (lone (b.atR a (.inRegion ops (i :: rest) :: k)) cs c.w) (lone { b.atR a todo with mode := .panicking [⟨u, false, false⟩] } cs c1.w) ∧ relA c1 v u ∧ Sim cfg n c1 st1 a ∧ Goes c c1 ∧ RcIs b.roundOf b.kind cs st1.rc) := by
 unfold compIns at hc
 split at hc
 · rename_i act opds hop
   split at hc
   · rename_i xs gd h1 h2 h3
     cases hc
     have hw := guard_rel sim h2 (i := ⟨o.dst, gd, act, xs⟩) rfl hg
     have hg := stepGR_op (P := P) (b := b) (k := k) (cs := cs) (w := c.w) (rest := rest) ho hw
     rw [sem_eq hop hrc hs] at hg
     have hfin := fun v => finish_op (b := b) (a := a) (k := k) (rest := rest) ho v
     unfold stepI at hs
     simp only at hs
     split at hs
     · cases hs
     split at hs
     · -- a value
       rename_i x h' hop'
       cases hs
       rw [← sim.h] at hop'
       obtain ⟨c1, hv, hh, ok1, G⟩ := op_sound (ρ := a.eval) sim.ok (fun v => rfl) hop (opds_rel sim h1) hop'
       refine .inl ⟨rfl, ?_⟩
       rcases hv with ⟨v, hrun, hrel⟩ | ⟨hrun, hrel⟩
       · refine ⟨a.put o.dst v, c1, cs, .one (step_lone_go ?_), (sim.goes G ok1 hh).put h3 hrel, G, CsGo.refl _ _, hrc⟩
         rw [hg, ← hfin]; simp [stepG.apply, hrun]
       · refine ⟨a.put o.dst undef, c1, cs, .one (step_lone_go ?_), (sim.goes G ok1 hh).put h3 hrel, G, CsGo.refl _ _, hrc⟩
         rw [hg, ← hfin]; simp [stepG.apply, hrun]
     · -- a panic
       rename_i x hop'
       split at hs
       · cases hs
       · cases hs
         rw [← sim.h] at hop'
         obtain ⟨v, hrun, hrel⟩ := op_sound (ρ := a.eval) sim.ok (fun v => rfl) hop (opds_rel sim h1) hop'
         refine .inr ⟨x, v, c, .inRegion ops (i :: rest) :: k, rfl, .one (step_lone_go ?_), hrel, sim, Goes.refl c, hrc⟩
         have e : (b.atR a (.inRegion ops (i :: rest) :: k)).raise [⟨v, false, false⟩] = { b.atR a (.inRegion ops (i :: rest) :: k) with mode := .panicking [⟨v, false, false⟩] } := rfl
         rw [hg, ← e]; simp [stepG.apply, hrun]
     · -- a call
       rename_i p m f args hop'
       split at hs
       · rename_i x h' rc' hcall
         cases hs
         rw [← sim.h] at hop' hcall
         rcases op_sound (ρ := a.eval) sim.ok (fun v => rfl) hop (opds_rel sim h1) hop' with ⟨hlt, vals, hrun, hrel⟩ | ⟨hge, l, vals, hrun, hrel⟩
         rotate_left
         · obtain ⟨c1, bv, y, fn, tmps, asg, body, ok1, G, hh, hy, hv, hyld, hst⟩ := callM_yld hX hcall hge sim.ok sim.glob rfl hrel (b.atR a (.inRegion ops (i :: rest) :: k)) cs
           cases hy
           rw [hyld] at hrun
           refine .inl ⟨rfl, a.put o.dst (.bool bv), c1, cs, ?_, (sim.goes G ok1 hh).put h3 hv, G, CsGo.refl _ _, hrc⟩
           refine .head (m₁ := lone (Frame.round l fn tmps asg body .normal) (b.atR a (.inRegion ops (i :: rest) :: k) :: cs) c.w) (step_lone_go ?_) ?_
           · rw [hg]; simp [stepG.apply, hrun, Frame.atR]
           · rw [← hfin]; exact hst
         obtain ⟨c1, e, ok1, G, hh, ⟨v, rfl, hv⟩, hdone⟩ := callM_ok hX hcall hlt sim.ok sim.glob rfl hrel (kind := .normal) (cs := b.atR a (.inRegion ops (i :: rest) :: k) :: cs) ⟨rfl, rfl⟩
         refine .inl ⟨rfl, a.put o.dst v, c1, cs, ?_, (sim.goes G ok1 hh).put h3 hv, G, CsGo.refl _ _, hrc⟩
         rcases hdone with ⟨hent, fr, cs', hgo, hrc', hst, hfn, hk, hgoing⟩ | ⟨_, _, v', e', hval⟩
         · have henter : step P (lone (b.atR a (.inRegion ops (i :: rest) :: k)) cs c.w) = .next (lone (Frame.enter P f vals .normal) (b.atR a (.inRegion ops (i :: rest) :: k) :: cs) c.w) :=
            step_lone_go (by rw [hg]; simp [stepG.apply, hrun, hent, Frame.atR])
           have hcs : cs' = b.atR a (.inRegion ops (i :: rest) :: k) :: cs := hgo.normal
           subst hcs
           refine .head henter (hst.trans (.one ?_))
           rw [← hfin]
           obtain ⟨g1, g2, fn, g3, g4⟩ := hgoing
           exact step_leave_returned ⟨g1, g2, hk, fn, g3, g4⟩
         · cases e'
           refine .one (step_lone_go ?_)
           rw [hg, ← hfin]; simp [stepG.apply, hrun, hval]
       · rename_i x h' rc' hcall
         split at hs
         · cases hs
         · cases hs
           rw [← sim.h] at hop' hcall
           rcases op_sound (ρ := a.eval) sim.ok (fun v => rfl) hop (opds_rel sim h1) hop' with ⟨hlt, vals, hrun, hrel⟩ | ⟨hge, l, vals, hrun, hrel⟩
           rotate_left
           · obtain ⟨c1, bv, y, fn, tmps, asg, body, ok1, G, hh, hy, hv, hyld, hst⟩ := callM_yld hX hcall hge sim.ok sim.glob rfl hrel (b.atR a (.inRegion ops (i :: rest) :: k)) cs
             cases hy
           obtain ⟨c1, e, ok1, G, hh, ⟨v, rfl, hv⟩, hdone⟩ := callM_ok hX hcall hlt sim.ok sim.glob rfl hrel (kind := .normal) (cs := b.atR a (.inRegion ops (i :: rest) :: k) :: cs) ⟨rfl, rfl⟩
           rcases hdone with ⟨hent, fr, cs', hgo, hrc', hst, hfn, hk, hgoing⟩ | ⟨_, _, v', e', hval⟩
           · have henter : step P (lone (b.atR a (.inRegion ops (i :: rest) :: k)) cs c.w) = .next (lone (Frame.enter P f vals .normal) (b.atR a (.inRegion ops (i :: rest) :: k) :: cs) c.w) :=
              step_lone_go (by rw [hg]; simp [stepG.apply, hrun, hent, Frame.atR])
             have hcs : cs' = b.atR a (.inRegion ops (i :: rest) :: k) :: cs := hgo.normal
             subst hcs
             refine .inr ⟨x, v, c1, .inRegion ops (i :: rest) :: k, rfl, .head henter (hst.trans (.one ?_)), hv, sim.goes G ok1 hh, G, hrc⟩
             rw [← Frame.raise_atR]
             exact step_leave_panicked hgoing
           · cases e'
       · cases hs
     · -- a deferred call
       rename_i m f args hop'
       split at hs
       · cases hs
       · cases hs
       · cases hs
         rw [← sim.h] at hop'
         obtain ⟨hlt, d, cap, hrun, ht, hrel⟩ := op_sound (ρ := a.eval) sim.ok (fun v => rfl) hop (opds_rel sim h1) hop'
         refine .inl ⟨rfl, { a with defers := d :: a.defers }.put o.dst undef, c, cs, .one (step_lone_go ?_), ?_, Goes.refl c, CsGo.refl _ _, hrc⟩
         · have : ({ b.atR a (.inRegion ops (i :: rest) :: k) with defers := d :: a.defers } : Frame).finish undef =
            b.atR ({ a with defers := d :: a.defers }.put o.dst undef) (.inRegion ops rest :: k) := by
            have := Frame.finish_atR b { a with defers := d :: a.defers } ops i rest k undef
            rw [ho] at this; exact this
           rw [hg]; simp only [stepG.apply, Sem.runT_eq, hrun, GStep.bare_after]
           exact congrArg (fun fr => GStep.go { frame := fr, callers := cs, status := .running, dying := none } c.w) this
         · have s2 : Sim cfg n c { st with ds := (m, f, args) :: st.ds } { a with defers := d :: a.defers } := ⟨sim.h, sim.ok, sim.glob, sim.size, sim.tmp, d, a.defers, rfl, .inl ⟨hlt, cap, ht, hrel⟩, sim.ds⟩
           exact s2.put h3 (undef_rel c)
     · -- recover
       rename_i hop'
       rw [← sim.h] at hop'
       have hrun : (execOp a.eval o).run P c.w = .ok .recover c.w := op_sound (ρ := a.eval) sim.ok (fun v => rfl) hop (opds_rel sim h1) hop'
       split at hs
       · cases hs
       · cases hs
       · rename_i v hst
         cases hs
         rw [hst] at hrc
         obtain ⟨hro, hk, c0, rest0, u, rfl, hm, hrel⟩ := hrc
         have htr : tryRecover (b.atR a (.inRegion ops (i :: rest) :: k)) (c0 :: rest0) = some (u, { c0 with mode := .panicking [⟨u, true, false⟩] } :: rest0) := by
          rw [tryRecover_deferred (show (b.atR a (.inRegion ops (i :: rest) :: k)).kind = .deferred from hk)]
          simp [recoverD, hm]
         have s2 : Sim cfg n c { st with rc := .took } a := ⟨sim.h, sim.ok, sim.glob, sim.size, sim.tmp, sim.ds⟩
         refine .inl ⟨rfl, a.put o.dst u, c, { c0 with mode := .panicking [⟨u, true, false⟩] } :: rest0, .one (step_lone_go ?_), s2.put h3 (hrel c), Goes.refl c, .inr ⟨hk, c0, rest0, _, rfl, rfl⟩, hro, hk, _, rest0, u, rfl, rfl⟩
         rw [hg, ← hfin]
         simp only [Frame.atR] at htr ⊢
         simp only [hro] at htr ⊢
         simp [stepG.apply, hrun, htr]
       · rename_i hnr hno
         cases hs
         have hro : b.roundOf = none := hrc.none fun e => hnr e
         have htr : tryRecover (b.atR a (.inRegion ops (i :: rest) :: k)) cs = none := by
          generalize hq : st.rc = q at hrc hno hnr
          cases q with
          | no =>
           have : (b.atR a (.inRegion ops (i :: rest) :: k)).kind = .normal := hrc.2
           cases cs <;> simp [tryRecover, this]
          | calm =>
           obtain ⟨_, hk, c0, rest0, rfl, hm⟩ := hrc
           rw [tryRecover_deferred (show (b.atR a (.inRegion ops (i :: rest) :: k)).kind = .deferred from hk)]
           simp [recoverD, hm]
          | live v => exact (hno v rfl).elim
          | rnd => exact (hnr rfl).elim
          | took =>
           obtain ⟨_, hk, c0, rest0, u, rfl, hm⟩ := hrc
           rw [tryRecover_deferred (show (b.atR a (.inRegion ops (i :: rest) :: k)).kind = .deferred from hk)]
           simp [recoverD, hm]
         refine .inl ⟨rfl, a.put o.dst .nilIface, c, cs, .one (step_lone_go ?_), sim.put h3 (by simp [relA, relD]), Goes.refl c, CsGo.refl _ _, hrc⟩
         rw [hg, ← hfin]
         simp only [Frame.atR] at htr ⊢
         simp only [hro] at htr ⊢
         simp [stepG.apply, hrun, htr]
     · cases hs
   · cases hc
 · cases hc
end
end Go.Proofs.YtlhajccbfapieaaGreatDoor.Ab
