/- The run of the machine against the interpreter's: calls, whole. -/
import Derived.Test.YtlhajccbfapieaaGreatDoorAbRun4
namespace Go.Proofs.YtlhajccbfapieaaGreatDoor.Ab
open Go
set_option linter.unusedVariables false
set_option linter.unusedSimpArgs false
def compRes (P : Program) (n : Nat) : List ResultVar → Option (List RV)
 | [] => some []
 | .tmp t :: l => match Nat.blt t n, compRes P n l with
  | true, some l => some (.tmp t :: l)
  | _, _ => none
 | .cell a t :: l => match Nat.blt a n, loadN P t, compRes P n l with
  | true, some m, some l => some (.cell a m :: l)
  | _, _, _ => none
section
variable {P : Program} {cfg : Cfg} {n : Nat} {c : Cx} {st st' : St} {a : Go.Act}
theorem loadA_addr {h : Heap} {m : Option Nat} {x z : AV} {v : Value} (hx : relA c x v) (hl : loadA h m x = some z) : ∃ p, v = .pointer (some p) := by
 cases x with
 | ptr => simp only [relA] at hx; obtain ⟨_, b, _, rfl⟩ := hx; exact ⟨_, rfl⟩
 | ept => simp only [relA] at hx; obtain ⟨p, _, _, _, _, _, _, rfl, _⟩ := hx; exact ⟨p, rfl⟩
 | rpt => simp only [relA] at hx; obtain ⟨b, o, rfl, _⟩ := hx; exact ⟨_, rfl⟩
 | _ => simp [loadA] at hl
theorem run_cell (ok : Ok c) {t : TypeId} {m : Option Nat} (hm : loadN P t = some m) {x z : AV} {v : Value} (hx : relA c x v) (hl : loadA c.h m x = some z) :
 ∃ u, (do loadVar t (← asAddr v) : Sem Value).run P c.w = .ok u c.w ∧ relA c z u := by
 obtain ⟨p, rfl⟩ := loadA_addr hx hl
 obtain ⟨u, h1, h2⟩ := s_load (P := P) ok hm hx hl
 refine ⟨u, ?_, h2⟩
 simp only [Instr.loadAt, Instr.sureAddr, Sem.run_bind, Sem.run_pure, Result.andThen] at h1
 simp only [asAddr, Sem.run_bind, Sem.run_pure, Result.andThen]
 exact h1
theorem run_results (s : Sim cfg n c st a) {h : Heap} (hh : c.h = h) : ∀ {rs : List ResultVar} {res : List RV} {l : List AV}, compRes P n rs = some res → readRes st.fr h res = some l →
 ∃ vs : List Value, (rs.mapM fun r => (match r with
  | .tmp t => pure (a.tmps.getD t undef)
  | .cell b t => do loadVar t (← asAddr (a.tmps.getD b undef)) : Sem Value)).run P c.w = .ok vs c.w ∧ relL c l vs
 | [], res, l, hc, hr => by
  simp only [compRes, Option.some.injEq] at hc
  subst hc
  simp only [readRes, Option.some.injEq] at hr
  subst hr
  exact ⟨[], rfl, rfl⟩
 | .tmp t :: rs, res, l, hc, hr => by
  simp only [compRes] at hc
  split at hc
  · rename_i l' ht hl
    cases hc
    simp only [readRes] at hr
    split at hr
    · rename_i x l2 hx hl2
      cases hr
      obtain ⟨vs, h1, h2⟩ := run_results s hh hl hl2
      refine ⟨a.tmps.getD t undef :: vs, ?_, relL_cons.2 ⟨?_, h2⟩⟩
      · simp only [List.mapM_cons, Sem.run_bind, Sem.run_pure, Result.andThen, h1]
      · rw [force_eq hx]; exact s.tmp t (Nat.le_of_ble_eq_true ht)
    · cases hr
  · cases hc
 | .cell b t :: rs, res, l, hc, hr => by
  simp only [compRes] at hc
  split at hc
  · rename_i m l' ht hm hl
    cases hc
    simp only [readRes] at hr
    split at hr
    · rename_i x hx
      split at hr
      · rename_i y l2 hy hl2
        cases hr
        obtain ⟨vs, h1, h2⟩ := run_results s hh hl hl2
        subst hh
        obtain ⟨u, h3, h4⟩ := run_cell (P := P) s.ok hm (s.tmp b (Nat.le_of_ble_eq_true ht)) hx
        refine ⟨u :: vs, ?_, relL_cons.2 ⟨?_, h2⟩⟩
        · simp only [List.mapM_cons]
          rw [Sem.run_bind, h3]
          simp only [Sem.run_bind, Sem.run_pure, Result.andThen, h1]
        · rw [force_eq hy]; exact h4
      · cases hr
    · cases hr
  · cases hc
theorem results_rel (s : Sim cfg n c st a) {h : Heap} (hh : c.h = h) {fn : Func} {res : List RV} {l : List AV} (hc : compRes P n fn.results.toList = some res) (hr : readRes st.fr h res = some l) :
 ∃ v, (results fn a.tmps).run P c.w = .ok v c.w ∧ relA c (oneOf l) v := by
 obtain ⟨vs, h1, h2⟩ := run_results (P := P) s hh hc hr
 refine ⟨if h : vs.toArray.size = 1 then vs.toArray[0] else .tuple vs.toArray, ?_, ?_⟩
 · have e : (results fn a.tmps).run P c.w = (((fn.results.toList.mapM fun r => (match r with
    | .tmp t => pure (a.tmps.getD t undef)
    | .cell b t => do loadVar t (← asAddr (a.tmps.getD b undef)) : Sem Value)).run P c.w).andThen fun l w => .ok l.toArray w).andThen fun vs w => .ok (if h : vs.size = 1 then vs[0] else .tuple vs) w := by
    unfold results
    rw [Array.mapM_eq_mapM_toList]
    simp only [Sem.run_bind, Sem.run_map, Sem.run_pure]
    rfl
   rw [e, h1]
   rfl
 · cases l with
   | nil =>
    cases vs with
    | nil => simp [oneOf, relA, relA.relL]
    | cons => simp [relA.relL] at h2
   | cons x l =>
    cases vs with
    | nil => simp [relA.relL] at h2
    | cons v vs =>
     rw [relL_cons] at h2
     cases l with
     | nil =>
      cases vs with
      | nil => simpa [oneOf] using h2.1
      | cons => obtain ⟨_, h⟩ := h2; simp [relA.relL] at h
     | cons y l =>
      cases vs with
      | nil => obtain ⟨_, h⟩ := h2; simp [relA.relL] at h
      | cons u vs =>
       simp only [oneOf, relA]
       exact ⟨(v :: u :: vs).toArray, by simp, by simpa using relL_cons.2 h2⟩
def ModeIs (c : Cx) (m : FrameMode) : Option AV → Prop
 | none => m = .returning
 | some v => ∃ u, m = .panicking [⟨u, false, false⟩] ∧ relA c v u
theorem unwind_ok {X : CallF} (hX : CallOk P cfg X) : ∀ (ds : List (Mode × Nat × List AV)) (p : Option AV) (h : Heap) {p' : Option AV} {h' : Heap}, unwind X ds p h = some (p', h') → ∀ (c : Cx) (fr : Frame) (cs : List Frame),
 Ok c → Glob cfg c → c.h = h → DsRel c ds fr.defers → ModeIs c fr.mode p →
 ∃ c' m', Steps P (lone fr cs c.w) (lone { fr with mode := m', defers := [] } cs c'.w) ∧ Ok c' ∧ Goes c c' ∧ c'.h = h' ∧ ModeIs c' m' p'
 | [], p, h, p', h', hu, c, fr, cs, ok, gl, hh, hds, hm => by
  simp only [unwind, Option.some.injEq, Prod.mk.injEq] at hu
  obtain ⟨rfl, rfl⟩ := hu
  simp only [DsRel] at hds
  refine ⟨c, fr.mode, ?_, ok, Goes.refl c, hh, hm⟩
  rw [← hds]
  exact Steps.refl P _
 | (m, f, args) :: ds, p, h, p', h', hu, c, fr, cs, ok, gl, hh, hds, hm => by
  obtain ⟨d, ds', hfd, hD, hds⟩ := hds
  have hrun : fr.mode ≠ .run := by
   cases p with
   | none => rw [show fr.mode = .returning from hm]; simp
   | some v => obtain ⟨u, e, _⟩ := hm; rw [e]; simp
  cases hf : Nat.beq f 2097152 with
  | true =>
   have hfe := Nat.eq_of_beq_eq_true hf
   simp only [unwind, hf] at hu
   split at hu
   · rename_i h2 ht
     rcases hD with ⟨hlt, _⟩ | ⟨_, m1, num, j, b, rfl, hrel, htar⟩
     · omega
     · simp only [takeD] at ht
       split at ht
       · rename_i ty num' caps hj
         cases ht
         rw [← hh] at hj
         obtain ⟨b', e1, e2, e3, vs, e4, e5⟩ := lp_rel ok hj
         simp only [relA] at hrel
         obtain ⟨_, _, _, _, b2, _, q2, q3⟩ := hrel
         rw [e1] at q2
         cases q2
         cases q3
         obtain ⟨ok2, G2⟩ := lp_to (s' := 6) (caps' := []) (vs' := []) (x := .deferred none) ok hj e1 rfl ⟨fun h => by omega, fun _ h => absurd rfl h⟩
         have s1 := step_collected (P := P) (fr := fr) (cs := cs) hrun hfd htar (run_takeDeferred (e5.1 rfl))
         obtain ⟨c3, m3, k1, k2, k3, k4, k5⟩ := unwind_ok hX ds p _ hu (c.lpSet j b (.deferred none) ty (.lp num' 6 [])) { fr with defers := [] ++ ds' } cs ok2 (gl.goes ok G2) (by simp only [Cx.lpSet, hh]) (hds.goes G2 ok) (by
          cases p with
          | none => exact hm
          | some v => obtain ⟨u, e, hv⟩ := hm; exact ⟨u, e, relA_goes G2 ok _ _ hv⟩)
         exact ⟨c3, m3, .head s1 k1, k2, Goes.trans ok.fbs G2 k3, k4, k5⟩
       · cases ht
   · cases hu
  | false =>
  obtain ⟨hlt, cap, htar, hrel⟩ : f < 1048576 ∧ ∃ cap : Array Value, d.target = .fn (.func f) cap ∧ relL c args (d.args ++ cap).toList := by
   rcases hD with h | ⟨h, _⟩
   · exact h
   · subst h; cases hf
  have key : ∀ (rc : Rec) (r : CRes) (p2 : Option AV), callM X false m f args h rc = some r → RcIs none .deferred ({ fr with defers := ds' } :: cs) rc → rc ≠ .no → (∃ x, r.r = .ret x) → unwind X ds p2 r.h = some (p', h') →
   (∀ (c1 : Cx) (fr2 : Frame) (rest : List Frame), RcIs none .deferred (fr2 :: rest) r.rc → ModeIs c1 (settle fr2.mode) p2) →
   ∃ c' m', Steps P (lone fr cs c.w) (lone { fr with mode := m', defers := [] } cs c'.w) ∧ Ok c' ∧ Goes c c' ∧ c'.h = h' ∧ ModeIs c' m' p' := by
   intro rc r p2 hcall hrc hne ⟨x, hx⟩ hun hmode
   obtain ⟨c1, e, ok1, G, hh1, hcr, hdone⟩ := callM_ok hX hcall hlt ok gl hh hrel (kind := .deferred) (cs := { fr with defers := ds' } :: cs) hrc
   rcases hdone with ⟨hent, fr1, cs1, hgo, hrc1, hst, hfn, hk, hgoing⟩ | ⟨h1, _⟩
   · rw [hx] at hcr
     obtain ⟨v, rfl, _⟩ := hcr
     obtain ⟨m1, rfl⟩ : ∃ m1, cs1 = { { fr with defers := ds' } with mode := m1 } :: cs := by
      rcases hgo with rfl | ⟨_, c0, rest, m1, e1, rfl⟩
      · exact ⟨fr.mode, rfl⟩
      · cases e1; exact ⟨m1, rfl⟩
     have s1 : step P (lone fr cs c.w) = .next (lone (Frame.enter P f (d.args ++ cap) .deferred) ({ fr with defers := ds' } :: cs) c.w) :=
      step_defer hrun hfd htar (by rw [htar]; exact hent)
     have s2 := step_going_returned (c := { { fr with defers := ds' } with mode := m1 }) (cs := cs) hk hgoing
     obtain ⟨c2, m2, k1, k2, k3, k4, k5⟩ := unwind_ok hX ds p2 r.h hun c1 { { { fr with defers := ds' } with mode := m1 } with mode := settle m1 } cs ok1 (gl.goes ok G) hh1 (hds.goes G ok) (hmode c1 _ _ hrc1)
     exact ⟨c2, m2, .head s1 (hst.trans (.head s2 k1)), k2, Goes.trans ok.fbs G k3, k4, k5⟩
   · exact (hne h1).elim
  cases p with
  | none =>
   simp only [unwind, hf] at hu
   split at hu
   · rename_i x h1 hcall
     have hm' : fr.mode = .returning := hm
     exact key .calm ⟨.ret x, h1, .calm⟩ none hcall ⟨rfl, rfl, _, _, rfl, hm'⟩ (by simp) ⟨x, rfl⟩ hu (fun c1 fr2 rest hr => by
      obtain ⟨_, _, c0, rest', e, hm0⟩ := hr
      cases e
      simp only [ModeIs, hm0]
      rfl)
   · cases hu
  | some v =>
   obtain ⟨u, hm', hv⟩ := hm
   have hloose : ∀ {r}, callM X false m f args h (.live v) = some r → loose v = true := by
    intro r hr
    unfold callM at hr
    split at hr
    · cases hr
    · cases hr
    · split at hr
      · split at hr
        · cases hr
        · rename_i h1; exact h1
      · cases hr
   simp only [unwind, hf] at hu
   split at hu
   · rename_i x h1 hcall
     exact key (.live v) ⟨.ret x, h1, .took⟩ none hcall ⟨rfl, rfl, _, _, u, rfl, hm', fun y => loose_rel v u (hloose hcall) hv⟩ (by simp) ⟨x, rfl⟩ hu (fun c1 fr2 rest hr => by
      obtain ⟨_, _, c0, rest', u', e, hm0⟩ := hr
      cases e
      simp only [ModeIs, hm0]
      rfl)
   · rename_i x h1 v2 hcall
     exact key (.live v) ⟨.ret x, h1, .live v2⟩ (some v2) hcall ⟨rfl, rfl, _, _, u, rfl, hm', fun y => loose_rel v u (hloose hcall) hv⟩ (by simp) ⟨x, rfl⟩ hu (fun c1 fr2 rest hr => by
      obtain ⟨_, _, c0, rest', u', e, hm0, hrel'⟩ := hr
      cases e
      simp only [ModeIs, hm0]
      exact ⟨u', rfl, hrel' c1⟩)
   · cases hu
def KnownOk (P : Program) (cfg : Cfg) (f : Nat) (g : List AV → Option AV) : Prop :=
 ∀ (c : Cx) (vals : Array Value) (args : List AV) (cs : List Frame) (v : AV), Ok c → Glob cfg c → relL c args vals.toList → g args = some v → CallDone P c f vals .normal cs .no ⟨.ret v, c.h, .no⟩
structure CodeOk (P : Program) (cfg : Cfg) (f : Nat) (cf : CFn) : Prop where
 go : ∃ fn body, P.funcs[f]? = some fn ∧ fn.body = some body ∧ Comp P cfg fn.ntmps body cf.body ∧ compRes P fn.ntmps fn.results.toList = some cf.res ∧ (fn.name == "runtime.NumGoroutine") = false
def nodupB : List Nat → Bool
 | [] => true
 | t :: l => !memb t l && nodupB l
structure RoundOk (P : Program) (cfg : Cfg) (f : Nat) (rf : RFn) : Prop where
 go : ∃ num site, f = 1048576 + num ∧ theSite num = some site ∧ rf.keep = site.keep ∧ rf.ps = site.params.toList ∧ nodupB rf.ps = true ∧ Comp P cfg site.n site.assign rf.assign ∧ Comp P cfg site.n site.body rf.body
structure FOk (P : Program) (cfg : Cfg) (F : Nat → Option Fn) : Prop where
 mix : P.follows .mixedOrders = true
 code : ∀ f cf, F f = some (.code cf) → f < 1048576 ∧ CodeOk P cfg f cf
 round : ∀ f rf, F f = some (.round rf) → RoundOk P cfg f rf
 known : ∀ f g, F f = some (.known g) → f < 1048576 ∧ KnownOk P cfg f g
theorem run_callFunc {f : Nat} {fn : Func} {body : Code} (hf : P.funcs[f]? = some fn) (hb : fn.body = some body) (hn : (fn.name == "runtime.NumGoroutine") = false) (vals : Array Value) (w : World) :
 (callFunc f vals).run P w = .ok (.enter f vals) w := by
 unfold callFunc
 simp only [Sem.run_bind, run_program, Result.andThen, hf, hn, hb, Option.isNone_some, Bool.false_eq_true, if_false, Sem.run_pure]
theorem args0_get : ∀ (l : List AV) (t : Nat), args0 l t = (l[t]?).getD (.tup [])
 | [], t => by simp [args0]
 | x :: l, 0 => by simp [args0]
 | x :: l, t + 1 => by simp [args0, args0_get l t]
theorem code_ok {F : Nat → Option Fn} (hF : FOk P cfg F) {X : Ext} (hX : CallOk P cfg X.call) (hL : ∀ n, LoopOk P cfg n X) (hN : LoopN0 X) : ∀ f args h rc r, f < 1048576 → bodyF F X f args h rc = some r →
 ∀ (c : Cx) (vals : Array Value) (kind : CallKind) (cs : List Frame), Ok c → Glob cfg c → c.h = h → relL c args vals.toList → RcIs none kind cs rc → CallDone P c f vals kind cs rc r := by
 intro f args h rc r hlt hr c vals kind cs ok gl hh hargs hrc
 unfold bodyF at hr
 split at hr
 · cases hr
 · rename_i rf hFf
   obtain ⟨num, site, e, _⟩ := (hF.round f rf hFf).go
   omega
 · rename_i g hFf
   split at hr
   · rename_i v hg
     cases hr
     subst hh
     have hk : kind = .normal := hrc.2
     subst hk
     exact (hF.known f g hFf).2 c vals args cs v ok gl hargs hg
   · cases hr
 · rename_i cf hFf
   obtain ⟨fn, body, hfn, hb, hcomp, hres, hname⟩ := (hF.code f cf hFf).2.go
   split at hr
   · rename_i ex st hrun
     let b : Frame := { (default : Frame) with fn := f, kind := kind, roundOf := none }
     let a0 : Go.Act := { tmps := vals ++ Array.replicate (fn.ntmps - vals.size) undef, defers := [] }
     have henter : Frame.enter P f vals kind = b.atR a0 [.code body] := by
      simp [Frame.enter, Frame.atR, hfn, hb, b, a0]
     have sim : Sim cfg fn.ntmps c ⟨args0 args, h, [], rc, h.length⟩ a0 := by
      refine ⟨hh, ok, gl, by simp [a0]; omega, fun t ht => ?_, rfl⟩
      simp only [args0_get, a0]
      rw [Array.getD_eq_getD_getElem?]
      have hlen := relL_length hargs
      simp only [Array.length_toList] at hlen
      by_cases hlt : t < vals.size
      · rw [Array.getElem?_append_left hlt]
        obtain ⟨x, hx⟩ : ∃ x, args[t]? = some x := ⟨args[t], List.getElem?_eq_getElem (by omega)⟩
        obtain ⟨v, hv, hrel⟩ := relL_get hargs t x hx
        rw [hx]
        rw [Array.getElem?_toList] at hv
        rw [hv]
        exact hrel
      · rw [List.getElem?_eq_none (by omega), Array.getElem?_append_right (by omega)]
        rw [Array.getElem?_replicate]
        split <;> exact undef_rel c
     obtain ⟨e, a', c', cs', d1, d2, d3, d4, d5, d6⟩ := run_ok hF.mix hX (hL fn.ntmps) hN body cf.body hcomp ⟨args0 args, h, [], rc, h.length⟩ ex st hrun c a0 b [] cs sim hrc
     rw [← henter] at d6
     rw [runC_n0 hN _ _ _ _ hrun] at d3
     have d3 : Goes c c' := d3.full (by simp only; rw [hh]; exact Nat.le_refl _) ok.len
     have hent := run_callFunc (P := P) hfn hb hname vals c.w
     -- the frame that leaves
     have main : ∀ (m : FrameMode) (todo : List Item) (p p' : Option AV) (h' : Heap), Steps P (lone (Frame.enter P f vals kind) cs c.w) (lone { b.atR a' todo with mode := m } cs' c'.w) → ModeIs c' m p → unwind X.call st.ds p st.h = some (p', h') →
      (∀ v, p' = some v → r = ⟨.pan v, h', st.rc⟩) → (p' = none → ∃ l, readRes st.fr h' cf.res = some l ∧ r = ⟨.ret (oneOf l), h', st.rc⟩) → CallDone P c f vals kind cs rc r := by
      intro m todo p p' h' hst hm hun hpan hret
      obtain ⟨c2, m2, k1, k2, k3, k4, k5⟩ := unwind_ok hX st.ds p st.h hun c' { b.atR a' todo with mode := m } cs' d2.ok d2.glob d2.h d2.ds hm
      cases p' with
      | none =>
       obtain ⟨l, hl, rfl⟩ := hret rfl
       have s2 : Sim cfg fn.ntmps c2 { st with h := h' } a' := d2.goes k3 k2 k4
       obtain ⟨v, hv1, hv2⟩ := results_rel (P := P) (st := { st with h := h' }) s2 k4 hres hl
       refine ⟨c2, .returned v, k2, Goes.trans ok.fbs d3 k3, k4, ⟨v, rfl, hv2⟩, .inl ⟨hent, _, cs', d4, d5, hst.trans k1, rfl, rfl, k5, rfl, fn, hfn, hv1⟩⟩
      | some v =>
       rw [hpan v rfl]
       obtain ⟨u, rfl, hu⟩ := k5
       exact ⟨c2, .panicked [⟨u, false, false⟩], k2, Goes.trans ok.fbs d3 k3, k4, ⟨u, rfl, hu⟩, .inl ⟨hent, _, cs', d4, d5, hst.trans k1, rfl, rfl, rfl, rfl, fn, hfn⟩⟩
     unfold finish at hr
     split at hr
     · cases hr
     · rename_i v
       obtain ⟨u, rfl, hu⟩ := d1
       obtain ⟨todo, hst⟩ := d6
       split at hr
       · rename_i v' h' hun
         cases hr
         exact main _ todo (some v) (some v') h' hst ⟨u, rfl, hu⟩ hun (fun v e => by cases e; rfl) (fun e => by cases e)
       · rename_i h' hun
         split at hr
         · rename_i l hl
           cases hr
           exact main _ todo (some v) none h' hst ⟨u, rfl, hu⟩ hun (fun v e => by cases e) (fun _ => ⟨l, hl, rfl⟩)
         · cases hr
       · cases hr
     · rename_i hne1 hne2
       have hst : ∃ todo, Steps P (lone (Frame.enter P f vals kind) cs c.w) (lone { b.atR a' todo with mode := .returning } cs' c'.w) := by
        cases ex with
        | nor => cases d1; exact ⟨[], d6.trans (.one (stepR_end rfl))⟩
        | ret => cases d1; exact d6.1 rfl
        | exit id => exact (hne1 id rfl).elim
        | pan v => exact (hne2 v rfl).elim
       obtain ⟨todo, hst⟩ := hst
       split at hr
       · rename_i h' hun
         split at hr
         · rename_i l hl
           cases hr
           exact main _ todo none none h' hst rfl hun (fun v e => by cases e) (fun _ => ⟨l, hl, rfl⟩)
         · cases hr
       · cases hr
   · cases hr
theorem zip_rel : ∀ {ps : List Nat} {xs : List AV} {vs : List Value} {r : List (Nat × AV)} {ts : Array Value}, relL c xs vs → xs.length = ps.length → nodupB ps = true → n ≤ ts.size →
 (∀ t, t < n → relA c (look r t) (ts.getD t undef)) → ∀ t, t < n → relA c (look (zipT ps xs r) t) (((ps.zip vs).foldl (fun tm (q : Nat × Value) => tm.setIfInBounds q.1 q.2) ts).getD t undef) ∧
  n ≤ ((ps.zip vs).foldl (fun tm (q : Nat × Value) => tm.setIfInBounds q.1 q.2) ts).size := by
 intro ps
 induction ps with
 | nil =>
  intro xs vs r ts hx hl hn hts hr t ht
  cases xs with
  | nil => exact ⟨hr t ht, hts⟩
  | cons => simp at hl
 | cons p ps ih =>
  intro xs vs r ts hx hl hn hts hr t ht
  cases xs with
  | nil => simp at hl
  | cons x xs =>
   obtain ⟨v, vs', rfl, h1, h2⟩ : ∃ v vs', vs = v :: vs' ∧ relA c x v ∧ relL c xs vs' := by simpa only [relA.relL] using hx
   simp only [nodupB, Bool.and_eq_true, Bool.not_eq_true'] at hn
   have hnm : p ∉ ps := memb_false hn.1
   have hstep := ih (ts := ts.setIfInBounds p v) (r := (p, x) :: r) h2 (by simpa using hl) hn.2 (by simpa using hts) (fun t ht => by
    simp only [look]
    cases hb : Nat.beq t p with
    | true =>
     have := Nat.eq_of_beq_eq_true hb
     subst this
     rw [Array.getD_eq_getD_getElem?, Array.getElem?_setIfInBounds_self_of_lt (Nat.lt_of_lt_of_le ht hts)]
     exact h1
    | false =>
     have hne : p ≠ t := fun e => by subst e; simp at hb
     rw [Array.getD_eq_getD_getElem?, Array.getElem?_setIfInBounds_ne hne, ← Array.getD_eq_getD_getElem?]
     exact hr t ht) t ht
   simp only [List.zip_cons_cons, List.foldl_cons]
   refine ⟨?_, hstep.2⟩
   have hlook : look (zipT (p :: ps) (x :: xs) r) t = look (zipT ps xs ((p, x) :: r)) t := by
    have hz : ∀ (ps : List Nat) (xs : List AV), xs.length = ps.length → p ∉ ps → ∀ r, look (zipT ps xs ((p, x) :: r)) t = look ((p, x) :: zipT ps xs r) t := by
     intro ps
     induction ps with
     | nil => intro xs hl _ r; cases xs <;> simp [zipT]
     | cons q qs ihq =>
      intro xs hl hp r
      cases xs with
      | nil => simp at hl
      | cons y ys =>
       simp only [zipT]
       have hq : p ≠ q := fun e => hp (by rw [e]; exact List.mem_cons_self)
       have := ihq ys (by simpa using hl) (fun h => hp (List.mem_cons_of_mem _ h)) r
       simp only [look] at this ⊢
       cases hb : Nat.beq t q with
       | true =>
        have := Nat.eq_of_beq_eq_true hb
        subst this
        have : Nat.beq t p = false := by
         cases hb2 : Nat.beq t p with
         | false => rfl
         | true => exact (hq (Nat.eq_of_beq_eq_true hb2).symm).elim
        simp [this]
       | false => simp only [this]
    rw [hz ps xs (by simpa using hl) hnm r]
    rfl
   rw [hlook]
   exact hstep.1
theorem caps_rel {ts : Array Value} : ∀ {keep : List Nat} {caps : List AV}, relL c caps (keep.map fun t => ts.getD t undef) → ∀ t, relA c (look (zipT keep caps []) t) (ts.getD t undef)
 | [], caps, h, t => by cases caps <;> simp [zipT, look, relA]
 | k :: keep, [], h, t => by simp [zipT, look, relA]
 | k :: keep, x :: caps, h, t => by
  simp only [List.map_cons] at h
  have h := relL_cons.1 h
  simp only [zipT, look]
  cases hb : Nat.beq t k with
  | true => have := Nat.eq_of_beq_eq_true hb; subst this; exact h.1
  | false => exact caps_rel h.2 t
theorem rndIn_parts {i : Nat} {h h' : Heap} (e : rndIn i h = some h') : ∃ ty num caps, h[i]? = some ⟨.mine, ty, .lp num 0 caps⟩ ∧ h' = h.set i ⟨.mine, ty, .lp num 1 caps⟩ := by
 unfold rndIn at e
 split at e
 · rename_i ty num caps h1; cases e; exact ⟨ty, num, caps, h1, rfl⟩
 · cases e
theorem rndOut_parts {i : Nat} {ex : Ex} {st : St} {r : CRes} (e : rndOut i ex st = some r) : ∃ s ty num caps, exNum ex = some s ∧ st.h[i]? = some ⟨.mine, ty, .lp num 1 caps⟩ ∧ r = ⟨.ret (B (Nat.beq s 0)), st.h.set i ⟨.mine, ty, .lp num s caps⟩, .no⟩ := by
 unfold rndOut at e
 split at e
 · rename_i s ty num caps h1 h2 h3; cases e; exact ⟨s, ty, num, caps, h1, h3, rfl⟩
 · cases e
theorem lp_inj {o o' : Own} {ty ty' m m' s s' : Nat} {l l' : List AV} (h : some (⟨o, ty, .lp m s l⟩ : Obj) = some ⟨o', ty', .lp m' s' l'⟩) : m = m' := by cases h; rfl
theorem pl_inj {b b' : Nat} (h : (some (some (b, 0)) : Option (Option (Nat × Nat))) = some (some (b', 0))) : b = b' := by cases h; rfl
theorem yl_inj {l b : Nat} (h : Value.func (.yield l) #[] #[] = .func (.yield b) #[] #[]) : l = b := by cases h; rfl
theorem fold_arr (ps : Array Nat) (vs : List Value) (ts : Array Value) : (ps.zip vs.toArray).foldl (fun tmps (t, a) => tmps.setIfInBounds t a) ts = (ps.toList.zip vs).foldl (fun tm (q : Nat × Value) => tm.setIfInBounds q.1 q.2) ts := by
 rw [← Array.foldl_toList]; simp
def jumpOf : Ex → Option Code
 | .ret => some .ret
 | .exit id => some (.exit id)
 | _ => none
theorem st_end {ex : Ex} {s : Nat} (hs : exNum ex = some s) (r : Loop) : stIs s { r with state := if (jumpOf ex).isNone then .ready else .done, pending := jumpOf ex } := by
 cases ex with
 | nor => simp only [exNum, Option.some.injEq] at hs; subst hs; exact ⟨fun _ => ⟨rfl, rfl⟩, fun h => absurd h (by decide), fun h => absurd h (by decide), fun id h => by omega⟩
 | ret => simp only [exNum, Option.some.injEq] at hs; subst hs; exact ⟨fun h => absurd h (by decide), fun h => absurd h (by decide), fun _ => ⟨rfl, rfl⟩, fun id h => by omega⟩
 | exit id =>
  simp only [exNum, Option.some.injEq] at hs
  subst hs
  refine ⟨fun h => by omega, fun h => by omega, fun h => by omega, fun id' h => ?_⟩
  have : id = id' := by omega
  subst this
  exact ⟨rfl, rfl⟩
 | pan v => simp [exNum] at hs
theorem round_ok {F : Nat → Option Fn} (hF : FOk P cfg F) {X : Ext} (hX : CallOk P cfg X.call) (hL : ∀ n, LoopOk P cfg n X) (hN : LoopN0 X) : ∀ f args h rc r, 1048576 ≤ f → bodyF F X f args h rc = some r →
 ∀ (c : Cx) (l : Nat) (vals : List Value) (fr : Frame) (cs : List Frame), Ok c → Glob cfg c → c.h = h → relL c args (.func (.yield l) #[] #[] :: vals) → YldDone P c l vals fr cs r := by
 intro f args h rc r hge hr c l vals fr cs ok gl hh hargs
 unfold bodyF at hr
 split at hr
 · cases hr
 rotate_left
 · rename_i g hFf; have := (hF.known f g hFf).1; omega
 · rename_i cf hFf; have := (hF.code f cf hFf).1; omega
 rename_i rf hFf
 obtain ⟨num, site, rfl, hsite, hkeep, hps, hnd, hca, hcb⟩ := (hF.round _ rf hFf).go
 unfold bodyR at hr
 split at hr
 · rename_i md num1 i rest
   split at hr
   · rename_i ty num2 caps hi
     split at hr
     · rename_i hcond
       simp only [Bool.and_eq_true] at hcond
       obtain ⟨⟨q1, q2⟩, q3⟩ := hcond
       have q1 := Nat.eq_of_beq_eq_true q1
       have q2 := Nat.eq_of_beq_eq_true q2
       split at hr
       · rename_i st1 hrun1
         split at hr
         · rename_i h1 hin
           split at hr
           · rename_i ex st2 hrun2
             subst hh
             have hargs' := relL_cons.1 hargs
             obtain ⟨ha1, ha2⟩ := hargs'
             obtain ⟨b0, p1, p2, p3, vs0, p4, p5⟩ := lp_rel ok hi
             simp only [relA] at ha1
             obtain ⟨_, _, _, _, b1, w1, w2, w3⟩ := ha1
             rw [hi] at w1
             have hnum : num2 = num := (lp_inj w1).trans (Nat.add_left_cancel q1).symm
             clear w1
             rw [p1] at w2
             have hb1 : b0 = b1 := pl_inj w2
             subst hb1
             have hl : l = b0 := yl_inj w3
             subst hl
             clear w2 w3
             obtain ⟨site', r0, s1, s2, s3, s4, s5, s6, s7⟩ := p5.2 (by decide) (by decide)
             rw [hnum, hsite] at s1
             have s1 : site = site' := Option.some.inj s1
             subst s1
             obtain ⟨s8, rfl⟩ := s7 (by decide)
             have hvl : vals.length = rf.ps.length := by rw [relL_length ha2, q2]
             have hyld := run_yield (P := P) (w := c.w) (args := vals.toArray) s2 (by rw [s3]; simp [hvl, hps])
             let ts : Array Value := (r0.params.zip vals.toArray).foldl (fun tmps (t, a) => tmps.setIfInBounds t a) r0.tmps
             have hts : ts = (rf.ps.zip vals).foldl (fun tm (q : Nat × Value) => tm.setIfInBounds q.1 q.2) r0.tmps := by
              rw [hps, ← s3]; exact fold_arr _ _ _
             let b : Frame := { (default : Frame) with fn := r0.fn, kind := .normal, roundOf := some l }
             let a0 : Go.Act := { tmps := ts, defers := [] }
             have hfr : Frame.round l r0.fn ts r0.assign r0.body .normal = b.atR a0 [.code site.assign, .beginRound, .code site.body] := by
              rw [s4, s5]; rfl
             have hz := fun t ht => zip_rel (c := c) (n := site.n) (ps := rf.ps) (r := zipT rf.keep caps []) ha2 q2 hnd s8 (fun t ht => by rw [hkeep]; exact caps_rel p4 t) t ht
             have sim : Sim cfg site.n c ⟨look (zipT rf.ps rest (zipT rf.keep caps [])), c.h, [], .rnd, c.h.length⟩ a0 := by
              refine ⟨rfl, ok, gl, ?_, fun t ht => ?_, rfl⟩
              · simp only [a0, hts]
                rcases Nat.eq_zero_or_pos site.n with h0 | h0
                · omega
                · exact (hz 0 h0).2
              · simp only [a0, hts]; exact (hz t ht).1
             -- the assignments
             obtain ⟨e1, a1, c1, cs1', d1, d2, d3, d4, d5, d6⟩ := run_ok hF.mix hX (hL site.n) hN site.assign rf.assign hca _ .nor st1 hrun1 c a0 b [.beginRound, .code site.body] (fr :: cs) sim ⟨rfl, rfl⟩
             cases d1
             have hcs1 : cs1' = fr :: cs := d4.normal
             subst hcs1
             rw [runC_n0 hN _ _ _ _ hrun1] at d3
             have hil : i < c.h.length := (List.getElem?_eq_some_iff.1 hi).1
             obtain ⟨ty1, num3, caps1, g1, rfl⟩ := rndIn_parts hin
             rw [← d2.h] at g1
             obtain ⟨o1, x1, _, x3⟩ := d3.obj i _ hil hi
             rw [g1] at x1
             have x1 : (⟨.mine, ty1, .lp num3 0 caps1⟩ : Obj) = o1 := Option.some.inj x1
             subst x1
             simp only [OB.goes] at x3
             obtain ⟨hn3, x4⟩ := x3
             subst hn3
             rw [p1] at x4
             obtain ⟨b1, y1, y2, y3, vs1, y4, y5⟩ := lp_rel d2.ok g1
             rw [x4] at y1
             have hb1 : l = b1 := pl_inj y1
             subst hb1
             obtain ⟨site1, r1, t1, t2, t3, t4, t5, t6, t7⟩ := y5.2 (by decide) (by decide)
             have hbr := run_beginRound (P := P) t2 (t6.1 rfl).1
             obtain ⟨ok1', G1'⟩ := lp_to (s' := 1) (caps' := caps1) (vs' := vs1) (x := .loop { r1 with state := .busy }) d2.ok g1 x4 y4
              ⟨fun h => absurd h (by decide), fun _ _ => ⟨site1, _, t1, World.putObj_heap_same y2, t3, t4, t5, ⟨fun h => absurd h (by decide), fun _ => rfl, fun h => absurd h (by decide), fun id h => by omega⟩, fun _ => t7 (by decide)⟩⟩
             have sim1 := d2.goes G1' ok1' (h := st1.h.set i ⟨.mine, ty1, .lp num3 1 caps1⟩) (by simp only [Cx.lpSet, d2.h])
             -- the body
             obtain ⟨e2, a2, c2, cs2', f1, f2, f3, f4, f5, f6⟩ := run_ok hF.mix hX (hL site.n) hN site.body rf.body hcb _ ex st2 hrun2 _ a1 b [] (fr :: cs) sim1 d5
             have hcs2 : cs2' = fr :: cs := f4.normal
             subst hcs2
             obtain ⟨s, ty2, num4, caps2, hs, g2, rfl⟩ := rndOut_parts hr
             rw [← f2.h] at g2
             have hn0 : st2.n0 = c.h.length := (runC_n0 hN _ _ _ _ hrun2).trans (runC_n0 hN _ _ _ _ hrun1)
             rw [hn0] at f3
             have G2 : Goes c c2 := (GoesK.trans ok.fbs (GoesK.trans ok.fbs d3 (G1'.toK _)) f3).full (Nat.le_refl _) ok.len
             obtain ⟨o2, x1, _, x3⟩ := G2.obj i _ hi
             rw [g2] at x1
             have x1 : (⟨.mine, ty2, .lp num4 1 caps2⟩ : Obj) = o2 := Option.some.inj x1
             subst x1
             simp only [OB.goes] at x3
             obtain ⟨hn4, x5⟩ := x3
             subst hn4
             rw [p1] at x5
             obtain ⟨b2, y1', y2', y3', vs2, y4', y5'⟩ := lp_rel f2.ok g2
             rw [x5] at y1'
             have hb2 : l = b2 := pl_inj y1'
             subst hb2
             obtain ⟨site2, r2, t1', t2', t3', t4', t5', t6', t7'⟩ := y5'.2 (by decide) (by decide)
             have her := run_endRound (P := P) (jumpOf ex) t2'
             have hjn : (jumpOf ex).isNone = Nat.beq s 0 := by
              cases ex <;> simp only [exNum, Option.some.injEq, reduceCtorEq] at hs <;> subst hs <;> rfl
             obtain ⟨ok3, G3⟩ := lp_to (s' := s) (caps' := caps2) (vs' := vs2) (x := .loop { r2 with state := if (jumpOf ex).isNone then .ready else .done, pending := jumpOf ex }) f2.ok g2 x5 y4'
              ⟨fun h => by cases ex <;> simp only [exNum, Option.some.injEq, reduceCtorEq] at hs <;> omega, fun _ _ => ⟨site2, _, t1', World.putObj_heap_same y2', t3', t4', t5', st_end hs r2, fun _ => t7' (by decide)⟩⟩
             refine ⟨_, Nat.beq s 0, _, r0.fn, ts, r0.assign, r0.body, ok3, Goes.trans ok.fbs G2 G3, by simp only [Cx.lpSet, f2.h], rfl, by simp [relA, relD], hyld, ?_⟩
             rw [hfr]
             refine d6.trans (.head (stepR_beginRound rfl hbr) ?_)
             rw [← hjn]
             cases ex with
             | nor => cases f1; exact Steps.trans f6 (.one (stepR_round_end rfl rfl her))
             | ret =>
              cases f1
              obtain ⟨k₁, hst⟩ := f6.2 rfl
              exact hst.trans (.one (stepR_round_ret rfl rfl her))
             | exit id =>
              cases f1
              obtain ⟨k₁, hx, hst⟩ := f6.2 rfl rfl
              exact hst.trans (.one (stepR_round_exit rfl rfl hx her))
             | pan v => simp [exNum] at hs
           · cases hr
         · cases hr
       · cases hr
     · cases hr
   · cases hr
 · cases hr
theorem body_ok {F : Nat → Option Fn} (hF : FOk P cfg F) {X : Ext} (hX : CallOk P cfg X.call) (hL : ∀ n, LoopOk P cfg n X) (hN : LoopN0 X) : CallOk P cfg (bodyF F X) :=
 ⟨code_ok hF hX hL hN, round_ok hF hX hL hN⟩
theorem loop_ok (hmix : P.follows .mixedOrders = true) {X : Ext} (hX : CallOk P cfg X.call) (hL : ∀ n, LoopOk P cfg n X) (hN : LoopN0 X) (n : Nat) {Y : CallF} : LoopOk P cfg n ⟨Y, loopF X⟩ := by
 intro body cb hc keep st ex st' hr c a b k cs sim hrc
 simp only [loopF] at hr
 split at hr
 · rename_i st1 h1
   split at hr
   · rename_i st2 h2
     obtain ⟨e, a', c', cs', d1, d2, d3, d4, d5, d6⟩ := run_ok hmix hX (hL n) hN body cb hc st .nor st1 h1 c a b (.inLoop body :: k) cs sim hrc
     cases d1
     obtain ⟨c2, hw, sim2, G⟩ := gc_ok d2 h2
     have hrc2 : RcIs b.roundOf b.kind cs' st2.rc := by
      obtain ⟨fp, g, g', vs, ds, _, _, _, _, _, _, rfl⟩ := gc_parts h2
      exact d5
     have hn : st'.n0 = st1.n0 := (hN _ _ _ _ _ hr).trans (gc_n0 h2)
     refine Does.after sim.ok (Steps.trans d6 (.one stepR_inLoop)) (by rw [hn]; exact GoesK.trans sim.ok.fbs d3 G) d4 ?_
     rw [← hw]
     exact hL n body cb hc keep st2 ex st' hr c2 a' b k cs' sim2 hrc2
   · cases hr
 · rename_i hne
   refine Does.pass (x := .inLoop body) rfl ?_ (run_ok hmix hX (hL n) hN body cb hc st ex st' hr c a b (.inLoop body :: k) cs sim hrc)
   rintro rfl
   exact hne st' hr
theorem ext_ok {F : Nat → Option Fn} (hF : FOk P cfg F) : ∀ fuel, CallOk P cfg (ext F fuel).call ∧ (∀ n, LoopOk P cfg n (ext F fuel)) ∧ LoopN0 (ext F fuel)
 | 0 => ⟨⟨fun f args h rc r _ hr => by simp [ext] at hr, fun f args h rc r _ hr => by simp [ext] at hr⟩, fun n body cb hc keep st ex st' hr => by simp [ext] at hr, fun keep c st ex st' hr => by simp [ext] at hr⟩
 | fuel + 1 => by
  obtain ⟨h1, h2, h3⟩ := ext_ok hF fuel
  exact ⟨body_ok hF h1 h2 h3, fun n => loop_ok hF.mix h1 h2 h3 n, loopF_n0 h3⟩
end
end Go.Proofs.YtlhajccbfapieaaGreatDoor.Ab
