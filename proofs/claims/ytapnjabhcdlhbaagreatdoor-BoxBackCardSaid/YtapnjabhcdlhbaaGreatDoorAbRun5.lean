/- The run of the machine against the interpreter's: calls, whole. -/
import Derived.Test.YtapnjabhcdlhbaaGreatDoorAbRun4
namespace Go.Proofs.YtapnjabhcdlhbaaGreatDoor.Ab
open Go
set_option linter.unusedVariables false
set_option linter.unusedSimpArgs false

/-! ### 1. Results -/
def compRes (P : Program) (n : Nat) : List ResultVar → Option (List RV)
  | [] => some []
  | .tmp t :: l => match Nat.blt t n, compRes P n l with
    | true, some l => some (.tmp t :: l)
    | _, _ => none
  | .cell a t :: l => match Nat.blt a n, loadN P t, compRes P n l with
    | true, some m, some l => some (.cell a m :: l)
    | _, _, _ => none

section
variable {P : Program} {cfg : Cfg} {n : Nat} {c : Cx} {st st' : St} {a : Go.Act}

theorem loadA_addr {h : Heap} {m : Option Nat} {x z : AV} {v : Value} (hx : relA c x v) (hl : loadA h m x = some z) : ∃ p, v = .pointer (some p) := by
  cases x with
  | ptr => simp only [relA] at hx; obtain ⟨_, b, _, rfl⟩ := hx; exact ⟨_, rfl⟩
  | ept => simp only [relA] at hx; obtain ⟨p, _, _, _, _, _, _, rfl, _⟩ := hx; exact ⟨p, rfl⟩
  | rpt => simp only [relA] at hx; obtain ⟨b, o, rfl, _⟩ := hx; exact ⟨_, rfl⟩
  | _ => simp [loadA] at hl

theorem run_cell (ok : Ok c) {t : TypeId} {m : Option Nat} (hm : loadN P t = some m) {x z : AV} {v : Value} (hx : relA c x v) (hl : loadA c.h m x = some z) :
    ∃ u, (do loadVar t (← asAddr v) : Sem Value).run P c.w = .ok u c.w ∧ relA c z u := by
  obtain ⟨p, rfl⟩ := loadA_addr hx hl
  obtain ⟨u, h1, h2⟩ := s_load (P := P) ok hm hx hl
  refine ⟨u, ?_, h2⟩
  simp only [Instr.loadAt, Instr.sureAddr, Sem.run_bind, Sem.run_pure, Result.andThen] at h1
  simp only [asAddr, Sem.run_bind, Sem.run_pure, Result.andThen]
  exact h1

theorem run_results (s : Sim cfg n c st a) {h : Heap} (hh : c.h = h) : ∀ {rs : List ResultVar} {res : List RV} {l : List AV}, compRes P n rs = some res → readRes st.fr h res = some l →
    ∃ vs : List Value, (rs.mapM fun r => (match r with
      | .tmp t => pure (a.tmps.getD t undef)
      | .cell b t => do loadVar t (← asAddr (a.tmps.getD b undef)) : Sem Value)).run P c.w = .ok vs c.w ∧ relL c l vs
  | [], res, l, hc, hr => by
    simp only [compRes, Option.some.injEq] at hc
    subst hc
    simp only [readRes, Option.some.injEq] at hr
    subst hr
    exact ⟨[], rfl, rfl⟩
  | .tmp t :: rs, res, l, hc, hr => by
    simp only [compRes] at hc
    split at hc
    · rename_i l' ht hl
      cases hc
      simp only [readRes] at hr
      split at hr
      · rename_i x l2 hx hl2
        cases hr
        obtain ⟨vs, h1, h2⟩ := run_results s hh hl hl2
        refine ⟨a.tmps.getD t undef :: vs, ?_, relL_cons.2 ⟨?_, h2⟩⟩
        · simp only [List.mapM_cons, Sem.run_bind, Sem.run_pure, Result.andThen, h1]
        · rw [force_eq hx]; exact s.tmp t (Nat.le_of_ble_eq_true ht)
      · cases hr
    · cases hc
  | .cell b t :: rs, res, l, hc, hr => by
    simp only [compRes] at hc
    split at hc
    · rename_i m l' ht hm hl
      cases hc
      simp only [readRes] at hr
      split at hr
      · rename_i x hx
        split at hr
        · rename_i y l2 hy hl2
          cases hr
          obtain ⟨vs, h1, h2⟩ := run_results s hh hl hl2
          subst hh
          obtain ⟨u, h3, h4⟩ := run_cell (P := P) s.ok hm (s.tmp b (Nat.le_of_ble_eq_true ht)) hx
          refine ⟨u :: vs, ?_, relL_cons.2 ⟨?_, h2⟩⟩
          · simp only [List.mapM_cons]
            rw [Sem.run_bind, h3]
            simp only [Sem.run_bind, Sem.run_pure, Result.andThen, h1]
          · rw [force_eq hy]; exact h4
        · cases hr
      · cases hr
    · cases hc

theorem results_rel (s : Sim cfg n c st a) {h : Heap} (hh : c.h = h) {fn : Func} {res : List RV} {l : List AV} (hc : compRes P n fn.results.toList = some res) (hr : readRes st.fr h res = some l) :
    ∃ v, (results fn a.tmps).run P c.w = .ok v c.w ∧ relA c (oneOf l) v := by
  obtain ⟨vs, h1, h2⟩ := run_results (P := P) s hh hc hr
  refine ⟨if h : vs.toArray.size = 1 then vs.toArray[0] else .tuple vs.toArray, ?_, ?_⟩
  · have e : (results fn a.tmps).run P c.w = (((fn.results.toList.mapM fun r => (match r with
      | .tmp t => pure (a.tmps.getD t undef)
      | .cell b t => do loadVar t (← asAddr (a.tmps.getD b undef)) : Sem Value)).run P c.w).andThen fun l w => .ok l.toArray w).andThen fun vs w => .ok (if h : vs.size = 1 then vs[0] else .tuple vs) w := by
      unfold results
      rw [Array.mapM_eq_mapM_toList]
      simp only [Sem.run_bind, Sem.run_map, Sem.run_pure]
      rfl
    rw [e, h1]
    rfl
  · cases l with
    | nil =>
      cases vs with
      | nil => simp [oneOf, relA, relA.relL]
      | cons => simp [relA.relL] at h2
    | cons x l =>
      cases vs with
      | nil => simp [relA.relL] at h2
      | cons v vs =>
        rw [relL_cons] at h2
        cases l with
        | nil =>
          cases vs with
          | nil => simpa [oneOf] using h2.1
          | cons => obtain ⟨_, h⟩ := h2; simp [relA.relL] at h
        | cons y l =>
          cases vs with
          | nil => obtain ⟨_, h⟩ := h2; simp [relA.relL] at h
          | cons u vs =>
            simp only [oneOf, relA]
            exact ⟨(v :: u :: vs).toArray, by simp, by simpa using relL_cons.2 h2⟩

/-! ### 2. Deferred calls -/
def ModeIs (c : Cx) (m : FrameMode) : Option AV → Prop
  | none => m = .returning
  | some v => ∃ u, m = .panicking [⟨u, false, false⟩] ∧ relA c v u

theorem unwind_ok {X : CallF} (hX : CallOk P cfg X) : ∀ (ds : List (Mode × Nat × List AV)) (p : Option AV) (h : Heap) {p' : Option AV} {h' : Heap}, unwind X ds p h = some (p', h') → ∀ (c : Cx) (fr : Frame) (cs : List Frame),
    Ok c → Glob cfg c → c.h = h → DsRel c ds fr.defers → ModeIs c fr.mode p →
    ∃ c' m', Steps P (lone fr cs c.w) (lone { fr with mode := m', defers := [] } cs c'.w) ∧ Ok c' ∧ Goes c c' ∧ c'.h = h' ∧ ModeIs c' m' p'
  | [], p, h, p', h', hu, c, fr, cs, ok, gl, hh, hds, hm => by
    simp only [unwind, Option.some.injEq, Prod.mk.injEq] at hu
    obtain ⟨rfl, rfl⟩ := hu
    simp only [DsRel] at hds
    refine ⟨c, fr.mode, ?_, ok, Goes.refl c, hh, hm⟩
    rw [← hds]
    exact Steps.refl P _
  | (m, f, args) :: ds, p, h, p', h', hu, c, fr, cs, ok, gl, hh, hds, hm => by
    obtain ⟨d, cap, ds', hfd, htar, hrel, hds⟩ := hds
    have key : ∀ (rc : Rec) (r : CRes) (p2 : Option AV), callM X false m f args h rc = some r → RcIs .deferred ({ fr with defers := ds' } :: cs) rc → rc ≠ .no → fr.mode ≠ .run → (∃ x, r.r = .ret x) → unwind X ds p2 r.h = some (p', h') →
        (∀ (c1 : Cx) (fr2 : Frame) (rest : List Frame), RcIs .deferred (fr2 :: rest) r.rc → ModeIs c1 (settle fr2.mode) p2) →
        ∃ c' m', Steps P (lone fr cs c.w) (lone { fr with mode := m', defers := [] } cs c'.w) ∧ Ok c' ∧ Goes c c' ∧ c'.h = h' ∧ ModeIs c' m' p' := by
      intro rc r p2 hcall hrc hne hrun ⟨x, hx⟩ hun hmode
      obtain ⟨c1, e, ok1, G, hh1, hcr, hdone⟩ := callM_ok hX hcall ok gl hh hrel (kind := .deferred) (cs := { fr with defers := ds' } :: cs) hrc
      rcases hdone with ⟨hent, fr1, cs1, hgo, hrc1, hst, hfn, hk, hgoing⟩ | ⟨h1, _⟩
      · rw [hx] at hcr
        obtain ⟨v, rfl, _⟩ := hcr
        obtain ⟨m1, rfl⟩ : ∃ m1, cs1 = { { fr with defers := ds' } with mode := m1 } :: cs := by
          rcases hgo with rfl | ⟨_, c0, rest, m1, e1, rfl⟩
          · exact ⟨fr.mode, rfl⟩
          · cases e1; exact ⟨m1, rfl⟩
        have s1 : step P (lone fr cs c.w) = .next (lone (Frame.enter P f (d.args ++ cap) .deferred) ({ fr with defers := ds' } :: cs) c.w) :=
          step_defer hrun hfd htar (by rw [htar]; exact hent)
        have s2 := step_going_returned (c := { { fr with defers := ds' } with mode := m1 }) (cs := cs) hk hgoing
        obtain ⟨c2, m2, k1, k2, k3, k4, k5⟩ := unwind_ok hX ds p2 r.h hun c1 { { { fr with defers := ds' } with mode := m1 } with mode := settle m1 } cs ok1 (gl.goes ok G) hh1 (hds.goes G ok) (hmode c1 _ _ hrc1)
        exact ⟨c2, m2, .head s1 (hst.trans (.head s2 k1)), k2, Goes.trans ok.fbs G k3, k4, k5⟩
      · exact (hne h1).elim
    cases p with
    | none =>
      simp only [unwind] at hu
      split at hu
      · rename_i x h1 hcall
        have hm' : fr.mode = .returning := hm
        exact key .calm ⟨.ret x, h1, .calm⟩ none hcall ⟨rfl, _, _, rfl, hm'⟩ (by simp) (by rw [hm']; simp) ⟨x, rfl⟩ hu (fun c1 fr2 rest hr => by
          obtain ⟨_, c0, rest', e, hm0⟩ := hr
          cases e
          simp only [ModeIs, hm0]
          rfl)
      · cases hu
    | some v =>
      obtain ⟨u, hm', hv⟩ := hm
      have hloose : ∀ {r}, callM X false m f args h (.live v) = some r → loose v = true := by
        intro r hr
        unfold callM at hr
        split at hr
        · cases hr
        · cases hr
        · split at hr
          · split at hr
            · cases hr
            · rename_i h1; exact h1
          · cases hr
      simp only [unwind] at hu
      split at hu
      · rename_i x h1 hcall
        exact key (.live v) ⟨.ret x, h1, .took⟩ none hcall ⟨rfl, _, _, u, rfl, hm', fun y => loose_rel v u (hloose hcall) hv⟩ (by simp) (by rw [hm']; simp) ⟨x, rfl⟩ hu (fun c1 fr2 rest hr => by
          obtain ⟨_, c0, rest', u', e, hm0⟩ := hr
          cases e
          simp only [ModeIs, hm0]
          rfl)
      · rename_i x h1 v2 hcall
        exact key (.live v) ⟨.ret x, h1, .live v2⟩ (some v2) hcall ⟨rfl, _, _, u, rfl, hm', fun y => loose_rel v u (hloose hcall) hv⟩ (by simp) (by rw [hm']; simp) ⟨x, rfl⟩ hu (fun c1 fr2 rest hr => by
          obtain ⟨_, c0, rest', u', e, hm0, hrel'⟩ := hr
          cases e
          simp only [ModeIs, hm0]
          exact ⟨u', rfl, hrel' c1⟩)
      · cases hu

/-! ### 3. Whole calls -/
/-- What a function that is known answers. -/
def KnownOk (P : Program) (cfg : Cfg) (f : Nat) (g : List AV → Option AV) : Prop :=
  ∀ (c : Cx) (vals : Array Value) (args : List AV) (cs : List Frame) (v : AV), Ok c → Glob cfg c → relL c args vals.toList → g args = some v → CallDone P c f vals .normal cs .no ⟨.ret v, c.h, .no⟩
structure CodeOk (P : Program) (cfg : Cfg) (f : Nat) (cf : CFn) : Prop where
  go : ∃ fn body, P.funcs[f]? = some fn ∧ fn.body = some body ∧ Comp P cfg fn.ntmps body cf.body ∧ compRes P fn.ntmps fn.results.toList = some cf.res ∧ (fn.name == "runtime.NumGoroutine") = false
structure FOk (P : Program) (cfg : Cfg) (F : Nat → Option Fn) : Prop where
  mix : P.follows .mixedOrders = true
  code : ∀ f cf, F f = some (.code cf) → CodeOk P cfg f cf
  known : ∀ f g, F f = some (.known g) → KnownOk P cfg f g

theorem run_callFunc {f : Nat} {fn : Func} {body : Code} (hf : P.funcs[f]? = some fn) (hb : fn.body = some body) (hn : (fn.name == "runtime.NumGoroutine") = false) (vals : Array Value) (w : World) :
    (callFunc f vals).run P w = .ok (.enter f vals) w := by
  unfold callFunc
  simp only [Sem.run_bind, run_program, Result.andThen, hf, hn, hb, Option.isNone_some, Bool.false_eq_true, if_false, Sem.run_pure]

theorem args0_get : ∀ (l : List AV) (t : Nat), args0 l t = (l[t]?).getD (.tup [])
  | [], t => by simp [args0]
  | x :: l, 0 => by simp [args0]
  | x :: l, t + 1 => by simp [args0, args0_get l t]

theorem body_ok {F : Nat → Option Fn} (hF : FOk P cfg F) {X : Ext} (hX : CallOk P cfg X.call) (hL : ∀ n, LoopOk P cfg n X) (hN : LoopN0 X) : CallOk P cfg (bodyF F X) := by
  intro f args h rc r hr c vals kind cs ok gl hh hargs hrc
  unfold bodyF at hr
  split at hr
  · cases hr
  · rename_i g hFf
    split at hr
    · rename_i v hg
      cases hr
      subst hh
      have hk : kind = .normal := hrc
      subst hk
      exact hF.known f g hFf c vals args cs v ok gl hargs hg
    · cases hr
  · rename_i cf hFf
    obtain ⟨fn, body, hfn, hb, hcomp, hres, hname⟩ := (hF.code f cf hFf).go
    split at hr
    · rename_i ex st hrun
      let b : Frame := { (default : Frame) with fn := f, kind := kind }
      let a0 : Go.Act := { tmps := vals ++ Array.replicate (fn.ntmps - vals.size) undef, defers := [] }
      have henter : Frame.enter P f vals kind = b.at a0 [.code body] := by
        simp [Frame.enter, Frame.at, hfn, hb, b, a0]
      have sim : Sim cfg fn.ntmps c ⟨args0 args, h, [], rc, h.length⟩ a0 := by
        refine ⟨hh, ok, gl, by simp [a0]; omega, fun t ht => ?_, rfl⟩
        simp only [args0_get, a0]
        rw [Array.getD_eq_getD_getElem?]
        have hlen := relL_length hargs
        simp only [Array.length_toList] at hlen
        by_cases hlt : t < vals.size
        · rw [Array.getElem?_append_left hlt]
          obtain ⟨x, hx⟩ : ∃ x, args[t]? = some x := ⟨args[t], List.getElem?_eq_getElem (by omega)⟩
          obtain ⟨v, hv, hrel⟩ := relL_get hargs t x hx
          rw [hx]
          rw [Array.getElem?_toList] at hv
          rw [hv]
          exact hrel
        · rw [List.getElem?_eq_none (by omega), Array.getElem?_append_right (by omega)]
          rw [Array.getElem?_replicate]
          split <;> exact undef_rel c
      obtain ⟨e, a', c', cs', d1, d2, d3, d4, d5, d6⟩ := run_ok hF.mix hX (hL fn.ntmps) hN body cf.body hcomp ⟨args0 args, h, [], rc, h.length⟩ ex st hrun c a0 b [] cs sim hrc
      rw [← henter] at d6
      rw [runC_n0 hN _ _ _ _ hrun] at d3
      have d3 : Goes c c' := d3.full (by simp only; rw [hh]; exact Nat.le_refl _) ok.len
      have hent := run_callFunc (P := P) hfn hb hname vals c.w
      -- the frame that leaves
      have main : ∀ (m : FrameMode) (todo : List Item) (p p' : Option AV) (h' : Heap), Steps P (lone (Frame.enter P f vals kind) cs c.w) (lone { b.at a' todo with mode := m } cs' c'.w) → ModeIs c' m p → unwind X.call st.ds p st.h = some (p', h') →
          (∀ v, p' = some v → r = ⟨.pan v, h', st.rc⟩) → (p' = none → ∃ l, readRes st.fr h' cf.res = some l ∧ r = ⟨.ret (oneOf l), h', st.rc⟩) → CallDone P c f vals kind cs rc r := by
        intro m todo p p' h' hst hm hun hpan hret
        obtain ⟨c2, m2, k1, k2, k3, k4, k5⟩ := unwind_ok hX st.ds p st.h hun c' { b.at a' todo with mode := m } cs' d2.ok d2.glob d2.h d2.ds hm
        cases p' with
        | none =>
          obtain ⟨l, hl, rfl⟩ := hret rfl
          have s2 : Sim cfg fn.ntmps c2 { st with h := h' } a' := d2.goes k3 k2 k4
          obtain ⟨v, hv1, hv2⟩ := results_rel (P := P) (st := { st with h := h' }) s2 k4 hres hl
          refine ⟨c2, .returned v, k2, Goes.trans ok.fbs d3 k3, k4, ⟨v, rfl, hv2⟩, .inl ⟨hent, _, cs', d4, d5, hst.trans k1, rfl, rfl, k5, rfl, fn, hfn, hv1⟩⟩
        | some v =>
          rw [hpan v rfl]
          obtain ⟨u, rfl, hu⟩ := k5
          exact ⟨c2, .panicked [⟨u, false, false⟩], k2, Goes.trans ok.fbs d3 k3, k4, ⟨u, rfl, hu⟩, .inl ⟨hent, _, cs', d4, d5, hst.trans k1, rfl, rfl, rfl, rfl, fn, hfn⟩⟩
      unfold finish at hr
      split at hr
      · cases hr
      · rename_i v
        obtain ⟨u, rfl, hu⟩ := d1
        obtain ⟨todo, hst⟩ := d6
        split at hr
        · rename_i v' h' hun
          cases hr
          exact main _ todo (some v) (some v') h' hst ⟨u, rfl, hu⟩ hun (fun v e => by cases e; rfl) (fun e => by cases e)
        · rename_i h' hun
          split at hr
          · rename_i l hl
            cases hr
            exact main _ todo (some v) none h' hst ⟨u, rfl, hu⟩ hun (fun v e => by cases e) (fun _ => ⟨l, hl, rfl⟩)
          · cases hr
        · cases hr
      · rename_i hne1 hne2
        have hst : ∃ todo, Steps P (lone (Frame.enter P f vals kind) cs c.w) (lone { b.at a' todo with mode := .returning } cs' c'.w) := by
          cases ex with
          | nor => cases d1; exact ⟨[], d6.trans (.one step_end)⟩
          | ret => cases d1; exact d6
          | exit id => exact (hne1 id rfl).elim
          | pan v => exact (hne2 v rfl).elim
        obtain ⟨todo, hst⟩ := hst
        split at hr
        · rename_i h' hun
          split at hr
          · rename_i l hl
            cases hr
            exact main _ todo none none h' hst rfl hun (fun v e => by cases e) (fun _ => ⟨l, hl, rfl⟩)
          · cases hr
        · cases hr
    · cases hr

theorem loop_ok (hmix : P.follows .mixedOrders = true) {X : Ext} (hX : CallOk P cfg X.call) (hL : ∀ n, LoopOk P cfg n X) (hN : LoopN0 X) (n : Nat) {Y : CallF} : LoopOk P cfg n ⟨Y, loopF X⟩ := by
  intro body cb hc keep st ex st' hr c a b k cs sim hrc
  simp only [loopF] at hr
  split at hr
  · rename_i st1 h1
    split at hr
    · rename_i st2 h2
      obtain ⟨e, a', c', cs', d1, d2, d3, d4, d5, d6⟩ := run_ok hmix hX (hL n) hN body cb hc st .nor st1 h1 c a b (.inLoop body :: k) cs sim hrc
      cases d1
      obtain ⟨c2, hw, sim2, G⟩ := gc_ok d2 h2
      have hrc2 : RcIs b.kind cs' st2.rc := by
        obtain ⟨fp, g, g', vs, ds, _, _, _, _, _, _, rfl⟩ := gc_parts h2
        exact d5
      have hn : st'.n0 = st1.n0 := (hN _ _ _ _ _ hr).trans (gc_n0 h2)
      refine Does.after sim.ok (Steps.trans d6 (.one step_inLoop)) (by rw [hn]; exact GoesK.trans sim.ok.fbs d3 G) d4 ?_
      rw [← hw]
      exact hL n body cb hc keep st2 ex st' hr c2 a' b k cs' sim2 hrc2
    · cases hr
  · rename_i hne
    refine Does.pass (x := .inLoop body) rfl ?_ (run_ok hmix hX (hL n) hN body cb hc st ex st' hr c a b (.inLoop body :: k) cs sim hrc)
    rintro rfl
    exact hne st' hr

theorem ext_ok {F : Nat → Option Fn} (hF : FOk P cfg F) : ∀ fuel, CallOk P cfg (ext F fuel).call ∧ (∀ n, LoopOk P cfg n (ext F fuel)) ∧ LoopN0 (ext F fuel)
  | 0 => ⟨fun f args h rc r hr => by simp [ext] at hr, fun n body cb hc keep st ex st' hr => by simp [ext] at hr, fun keep c st ex st' hr => by simp [ext] at hr⟩
  | fuel + 1 => by
    obtain ⟨h1, h2, h3⟩ := ext_ok hF fuel
    exact ⟨body_ok hF h1 h2 h3, fun n => loop_ok hF.mix h1 h2 h3 n, loopF_n0 h3⟩
end
end Go.Proofs.YtapnjabhcdlhbaaGreatDoor.Ab
