/- The run of the machine against the interpreter's: code. -/
import Derived.Test.YtlhajccbfapieaaGreatDoorAbRng
namespace Go.Proofs.YtlhajccbfapieaaGreatDoor.Ab
open Go
set_option linter.unusedVariables false
set_option linter.unusedSimpArgs false
section
variable {P : Program} {cfg : Cfg} {n : Nat} {c : Cx} {st st' : St} {a : Go.Act} {X : Ext} {ex : Ex}
variable {b : Frame} {k : List Item} {cs : List Frame} {ops : Array Oper} {draw : Bool}
def LoopOk (P : Program) (cfg : Cfg) (n : Nat) (X : Ext) : Prop :=
 ∀ body cb, Comp P cfg n body cb → ∀ keep st ex st', X.loop keep cb st = some (ex, st') → ∀ (c : Cx) (a : Go.Act) (b : Frame) (k : List Item) (cs : List Frame), Sim cfg n c st a → RcIs b.roundOf b.kind cs st.rc →
  Does P cfg n (lone (b.atR a (.code body :: .inLoop body :: k)) cs c.w) b k cs c ex st'
theorem Does.pass {m : Machine} {x : Item} (hx : x.plain = true) (hne : ex ≠ .nor) (d : Does P cfg n m b (x :: k) cs c ex st') : Does P cfg n m b k cs c ex st' := by
 obtain ⟨e, a', c', cs', h1, h2, h3, h4, h5, h6⟩ := d
 refine ⟨e, a', c', cs', h1, h2, h3, h4, h5, .pass hx ?_ h6⟩
 cases ex with
 | nor => exact (hne rfl).elim
 | exit id => cases h1; simp
 | ret => cases h1; simp
 | pan v => obtain ⟨u, rfl, _⟩ := h1; simp
theorem junkD_get {f : Nat → AV} {t : Nat} : ∀ {is : List Ins}, junkD is f t = .junk ∨ (junkD is f t = f t ∧ ∀ z ∈ is, z.dst ≠ some t)
 | [] => .inr ⟨rfl, fun z hz => by cases hz⟩
 | i :: is => by
  simp only [junkD, put_get']
  split
  · exact .inl rfl
  · rename_i hne
    rcases junkD_get (is := is) with h | ⟨h1, h2⟩
    · exact .inl h
    · refine .inr ⟨h1, fun z hz => ?_⟩
      rcases List.mem_cons.1 hz with rfl | hz
      · exact hne
      · exact h2 z hz
theorem drawn_ok (hmix : P.follows .mixedOrders = true) (hX : CallOk P cfg X.call) {id : Nat} {cc : CC} (hc : drawnReg P cfg n ops = some cc) (st : St) (ex : Ex) (st' : St) (hr : runC X cc st = some (ex, st'))
 (c : Cx) (a : Go.Act) (b : Frame) (k : List Item) (cs : List Frame) (sim : Sim cfg n c st a) (hrc : RcIs b.roundOf b.kind cs st.rc) : Does P cfg n (lone (b.atR a (.code (.region id ops true) :: k)) cs c.w) b k cs c ex st' := by
 obtain ⟨is0, h1, mark, perm, h2⟩ := drawnReg_cases hc
 obtain ⟨is, chk, rfl, D, hd, hl⟩ := drawnBy_ok h1 h2
 have hord := stepR_region_draw (P := P) (b := b) (a := a) (k := k) (cs := cs) (w := c.w) (ops := ops) (id := id)
 simp only [Region.schedule, hmix, Bool.true_or, if_true] at hord
 simp only [runC] at hr
 split at hr
 · rename_i stF hrun
   split at hr
   · rename_i hchk
     cases hr
     obtain ⟨is', hm, hrun'⟩ := draw_any D hl hd hchk hrun (t := c.w.tape c.w.drawn (.order b.fn id))
     exact Does.after sim.ok (.one hord) (goes_drew.toK _) (CsGo.refl _ _) (ops_ok hX hm hrun' sim.drew hrc)
   · cases hr
 · rename_i v stF hrun
   simp only [Option.some.injEq, Prod.mk.injEq] at hr
   obtain ⟨rfl, rfl⟩ := hr
   obtain ⟨is', st2, hm, hrun', e1, e2, e3, e4, e5⟩ := draw_boom D hl hd hrun (t := c.w.tape c.w.drawn (.order b.fn id))
   obtain ⟨e, a', c', cs', d1, d2, d3, d4, d5, d6⟩ := Does.after sim.ok (.one hord) (goes_drew.toK _) (CsGo.refl _ _) (ops_ok hX hm hrun' sim.drew hrc)
   refine ⟨e, a', c', cs', d1, ⟨d2.h.trans e1, d2.ok, d2.glob, d2.size, fun t ht => ?_, by rw [← e2]; exact d2.ds⟩, by simp only; rw [← e4]; exact d3, d4, by simp only; rw [← e3]; exact d5, d6⟩
   simp only
   rcases junkD_get (f := stF.fr) (t := t) (is := is) with h | ⟨h, hno⟩
   · rw [h]; simp only [relA]
   · rw [h, ← e5 t hno]; exact d2.tmp t ht
 · cases hr
theorem stepR_scope {x : Code} {a : Go.Act} {w : World} : step P (lone (b.atR a (.code (.scope x) :: k)) cs w) = .next (lone (b.atR a (.code x :: .inScope x :: k)) cs w) :=
 step_lone_go (by simp [stepG, stepG.exec, Frame.atR])
theorem stepR_inScope {x : Code} {a : Go.Act} {w : World} : step P (lone (b.atR a (.inScope x :: k)) cs w) = .next (lone (b.atR a k) cs w) :=
 step_lone_go (by simp [stepG, stepG.exec, Frame.atR])
theorem run_ok (hmix : P.follows .mixedOrders = true) (hX : CallOk P cfg X.call) (hL : LoopOk P cfg n X) (hN : LoopN0 X) : ∀ (code : Code) (cc : CC), Comp P cfg n code cc → ∀ (st : St) (ex : Ex) (st' : St), runC X cc st = some (ex, st') →
 ∀ (c : Cx) (a : Go.Act) (b : Frame) (k : List Item) (cs : List Frame), Sim cfg n c st a → RcIs b.roundOf b.kind cs st.rc → Does P cfg n (lone (b.atR a (.code code :: k)) cs c.w) b k cs c ex st' := by
 intro code cc hc
 induction hc with
 | skip =>
  intro st ex st' hr c a b k cs sim hrc
  simp only [runC, Option.some.injEq, Prod.mk.injEq] at hr
  obtain ⟨rfl, rfl⟩ := hr
  exact ⟨.normal, a, c, cs, rfl, sim, (Goes.refl c).toK _, CsGo.refl _ _, hrc, .one stepR_skip⟩
 | label l =>
  intro st ex st' hr c a b k cs sim hrc
  simp only [runC, Option.some.injEq, Prod.mk.injEq] at hr
  obtain ⟨rfl, rfl⟩ := hr
  exact ⟨.normal, a, c, cs, rfl, sim, (Goes.refl c).toK _, CsGo.refl _ _, hrc, .one stepR_label⟩
 | region id ops draw cc hc =>
  intro st ex st' hr c a b k cs sim hrc
  cases draw with
  | false =>
   simp only [compReg, Option.map_eq_some_iff] at hc
   obtain ⟨is, h1, rfl⟩ := hc
   simp only [runC] at hr
   have hm := match_of (pre := []) h1 rfl
   simp only [List.length_nil, Array.length_toList, ← List.range_eq_range'] at hm
   exact Does.head (.one stepR_region) (ops_ok hX hm hr sim hrc)
  | true =>
   obtain ⟨bs, t, hc⟩ := compReg_true hc
   obtain ⟨e, a', c', cs', d1, d2, d⟩ := drawn_ok (cfg := ⟨cfg.mode, cfg.glob, bs, cfg.tells, t⟩) hmix ⟨hX.fn, hX.yld⟩ hc st ex st' hr c a b k cs ⟨sim.h, sim.ok, sim.glob, sim.size, sim.tmp, sim.ds⟩ hrc
   exact ⟨e, a', c', cs', d1, ⟨d2.h, d2.ok, d2.glob, d2.size, d2.tmp, d2.ds⟩, d⟩
 | seq x y cx cy hx hy ihx ihy =>
  intro st ex st' hr c a b k cs sim hrc
  simp only [runC] at hr
  split at hr
  · rename_i st1 h1
    obtain ⟨e, a', c', cs', d1, d2, d3, d4, d5, d6⟩ := ihx st .nor st1 h1 c a b (.code y :: k) cs sim hrc
    cases d1
    exact Does.after sim.ok (.head stepR_seq d6) (by rw [runC_n0 hN _ _ _ _ hr]; exact d3) d4 (ihy st1 ex st' hr c' a' b k cs' d2 d5)
  · rename_i hne
    refine Does.head (.one stepR_seq) (Does.pass (x := .code y) rfl ?_ (ihx st ex st' hr c a b (.code y :: k) cs sim hrc))
    rintro rfl
    exact hne st' hr
 | cond x y z cx cy cz hx hy hz ihy ihz =>
  intro st ex st' hr c a b k cs sim hrc
  simp only [runC] at hr
  have hrel := opd_rel sim hx
  split at hr
  · rename_i he
    rw [he] at hrel
    simp only [relA, relD] at hrel
    exact Does.head (.one (stepR_cond hrel)) (ihy st ex st' hr c a b k cs sim hrc)
  · rename_i he
    rw [he] at hrel
    simp only [relA, relD] at hrel
    exact Does.head (.one (stepR_cond hrel)) (ihz st ex st' hr c a b k cs sim hrc)
  · cases hr
 | block id x cx hx ihx =>
  intro st ex st' hr c a b k cs sim hrc
  simp only [runC] at hr
  have main : ∀ ex0 st0, runC X cx st = some (ex0, st0) → (∀ id', ex0 = .exit id' → id ≠ id' ∧ ex = .exit id') → (ex0 = .nor → ex = .nor) → (∀ v, ex0 = .pan v → ex = .pan v) → (ex0 = .ret → ex = .ret) → st0 = st' →
   Does P cfg n (lone (b.atR a (.code (.block id x) :: k)) cs c.w) b k cs c ex st' := by
   intro ex0 st0 h1 hexit hnor hpan hret hst
   subst hst
   obtain ⟨e, a', c', cs', d1, d2, d3, d4, d5, d6⟩ := ihx st ex0 st0 h1 c a b (.inBlock id :: k) cs sim hrc
   cases ex0 with
   | nor =>
    cases d1
    rw [hnor rfl]
    exact ⟨.normal, a', c', cs', rfl, d2, d3, d4, d5, .head stepR_block (Steps.trans d6 (.one stepR_inBlock))⟩
   | exit id' =>
    obtain ⟨hne, rfl⟩ := hexit id' rfl
    cases d1
    have hid : (id == id') = false := by simp; exact fun h => hne h
    have hxt : exitTo id' (.inBlock id :: k) = exitTo id' k := by simp [exitTo, hid]
    exact ⟨.exit id', a', c', cs', rfl, d2, d3, d4, d5, fun k' hk => .head stepR_block (d6.1 k' (by rw [hxt]; exact hk)),
     fun hro hk => let ⟨k₁, h1, h2⟩ := d6.2 hro (by rw [hxt]; exact hk); ⟨k₁, h1, .head stepR_block h2⟩⟩
   | ret =>
    cases d1
    rw [hret rfl]
    exact ⟨.ret, a', c', cs', rfl, d2, d3, d4, d5, .of_steps (.one stepR_block) d6⟩
   | pan v =>
    obtain ⟨u, rfl, hu⟩ := d1
    rw [hpan v rfl]
    exact ⟨_, a', c', cs', ⟨u, rfl, hu⟩, d2, d3, d4, d5, .of_steps (.one stepR_block) d6⟩
  split at hr
  · rename_i id' st0 h1
    split at hr
    · rename_i hb
      cases Nat.eq_of_beq_eq_true hb
      cases hr
      obtain ⟨e, a', c', cs', d1, d2, d3, d4, d5, d6⟩ := ihx st (.exit id) st' h1 c a b (.inBlock id :: k) cs sim hrc
      cases d1
      exact ⟨.normal, a', c', cs', rfl, d2, d3, d4, d5, .head stepR_block (d6.1 k (by simp [exitTo]))⟩
    · rename_i hb
      cases hr
      refine main _ _ h1 (fun id2 e => ?_) (fun e => by cases e) (fun v e => by cases e) (fun e => by cases e) rfl
      cases e
      exact ⟨fun e => by subst e; simp at hb, rfl⟩
  · rename_i hne
    exact main _ _ hr (fun id' e => (hne id' st' (by rw [← e]; exact hr)).elim) (fun e => e) (fun v e => e) (fun e => e) rfl
 | scope x cx hx ihx =>
  intro st ex st' hr c a b k cs sim hrc
  obtain ⟨e, a', c', cs', d1, d2, d3, d4, d5, d6⟩ := ihx st ex st' hr c a b (.inScope x :: k) cs sim hrc
  cases ex with
  | nor =>
   cases d1
   exact ⟨.normal, a', c', cs', rfl, d2, d3, d4, d5, .head stepR_scope (Steps.trans d6 (.one stepR_inScope))⟩
  | exit id' =>
   cases d1
   have hxt : exitTo id' (.inScope x :: k) = exitTo id' k := by simp [exitTo]
   exact ⟨.exit id', a', c', cs', rfl, d2, d3, d4, d5, fun k' hk => .head stepR_scope (d6.1 k' (by rw [hxt]; exact hk)),
    fun hro hk => let ⟨k₁, h1, h2⟩ := d6.2 hro (by rw [hxt]; exact hk); ⟨k₁, h1, .head stepR_scope h2⟩⟩
  | ret =>
   cases d1
   exact ⟨.ret, a', c', cs', rfl, d2, d3, d4, d5, .of_steps (.one stepR_scope) d6⟩
  | pan v =>
   obtain ⟨u, rfl, hu⟩ := d1
   exact ⟨_, a', c', cs', ⟨u, rfl, hu⟩, d2, d3, d4, d5, .of_steps (.one stepR_scope) d6⟩
 | loop keep x cx hx ihx =>
  intro st ex st' hr c a b k cs sim hrc
  simp only [runC] at hr
  split at hr
  · rename_i st1 h1
    obtain ⟨c1, hw, sim1, G⟩ := gc_ok sim h1
    have hrc1 : RcIs b.roundOf b.kind cs st1.rc := by
     obtain ⟨fp, g, g', vs, ds, _, _, _, _, _, _, rfl⟩ := gc_parts h1
     exact hrc
    refine Does.after sim.ok (.one stepR_loop) (by rw [hN _ _ _ _ _ hr, gc_n0 h1]; exact G) (CsGo.refl _ _) ?_
    rw [← hw]
    exact hL x cx hx keep st1 ex st' hr c1 a b k cs sim1 hrc1
  · cases hr
 | rng num keep f f' ps a b h hk h0 =>
  intro st ex st' hr c a b k cs sim hrc
  exact rng_ok hX h hk h0 hr sim hrc
 | exit id =>
  intro st ex st' hr c a b k cs sim hrc
  simp only [runC, Option.some.injEq, Prod.mk.injEq] at hr
  obtain ⟨rfl, rfl⟩ := hr
  exact ⟨.exit id, a, c, cs, rfl, sim, (Goes.refl c).toK _, CsGo.refl _ _, hrc, fun _ hk => .one (stepR_exit hk), fun _ hk => ⟨k, hk, Steps.refl P _⟩⟩
 | ret =>
  intro st ex st' hr c a b k cs sim hrc
  simp only [runC, Option.some.injEq, Prod.mk.injEq] at hr
  obtain ⟨rfl, rfl⟩ := hr
  exact ⟨.ret, a, c, cs, rfl, sim, (Goes.refl c).toK _, CsGo.refl _ _, hrc, fun hro => ⟨_, .one (stepR_ret hro)⟩, fun _ => ⟨k, Steps.refl P _⟩⟩
 | refuse s =>
  intro st ex st' hr c a b k cs sim hrc
  simp [runC] at hr
 | fgt keep x cx hx ihx =>
  intro st ex st' hr c a b k cs sim hrc
  simp only [runC] at hr
  split at hr
  · rename_i st1 h1
    split at h1
    · rename_i st2 h2
      cases h1
      obtain ⟨c1, hw, sim1, G⟩ := gc_ok sim h2
      have hrc1 : RcIs b.roundOf b.kind cs st1.rc := by
       obtain ⟨fp, g, g', vs, ds, _, _, _, _, _, _, rfl⟩ := gc_parts h2
       exact hrc
      have hn : st'.n0 = st.n0 := (runC_n0 hN _ _ _ _ hr).trans (gc_n0 h2)
      refine Does.after sim.ok (Steps.refl P _) (by rw [hn]; exact G) (CsGo.refl _ _) ?_
      rw [← hw]
      exact ihx st1 ex st' hr c1 a b k cs sim1 hrc1
    · cases h1
  · rename_i hne
    cases hg : gc keep st with
    | none => rw [hg] at hr; cases hr
    | some st2 =>
     rw [hg] at hr hne
     cases hr
     exact (hne _ rfl).elim
end
end Go.Proofs.YtlhajccbfapieaaGreatDoor.Ab
