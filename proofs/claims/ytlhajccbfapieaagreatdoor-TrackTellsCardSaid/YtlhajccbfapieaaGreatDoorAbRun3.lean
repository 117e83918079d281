/- The run of the machine against the interpreter's: code. -/
import Derived.Test.YtlhajccbfapieaaGreatDoorAbRun2
import Derived.Test.YtlhajccbfapieaaGreatDoorAbVc
namespace Go.Proofs.YtlhajccbfapieaaGreatDoor.Ab
open Go
set_option linter.unusedVariables false
set_option linter.unusedSimpArgs false
def ArrivesR (P : Program) (m : Machine) (b : Frame) (k : List Item) (cs : List Frame) : Exit → Go.Act → World → Prop
 | .normal, a, w => Steps P m (lone (b.atR a k) cs w)
 | .exit id, a, w => (∀ k', exitTo id k = some k' → Steps P m (lone (b.atR a k') cs w)) ∧
  (b.roundOf.isSome = true → exitTo id k = none → ∃ k₁, exitTo id k₁ = none ∧ Steps P m (lone (b.atR a (.code (.exit id) :: k₁)) cs w))
 | .ret, a, w => (b.roundOf = none → ∃ todo, Steps P m (lone { b.atR a todo with mode := .returning } cs w)) ∧
  (b.roundOf.isSome = true → ∃ k₁, Steps P m (lone (b.atR a (.code .ret :: k₁)) cs w))
 | .panic chain, a, w => ∃ todo, Steps P m (lone { b.atR a todo with mode := .panicking chain } cs w)
 | _, _, _ => True
theorem ArrivesR.of_steps {P : Program} {m m₁ : Machine} {b : Frame} {k : List Item} {cs : List Frame} {e : Exit} {a : Go.Act} {w : World}
 (h : Steps P m m₁) (h' : ArrivesR P m₁ b k cs e a w) : ArrivesR P m b k cs e a w := by
 cases e with
 | normal => exact h.trans h'
 | exit id => exact ⟨fun k' hk => h.trans (h'.1 k' hk), fun hr hk => let ⟨k₁, h1, h2⟩ := h'.2 hr hk; ⟨k₁, h1, h.trans h2⟩⟩
 | goto l => trivial
 | ret => exact ⟨fun hr => let ⟨todo, hs⟩ := h'.1 hr; ⟨todo, h.trans hs⟩, fun hr => let ⟨k₁, hs⟩ := h'.2 hr; ⟨k₁, h.trans hs⟩⟩
 | panic chain => obtain ⟨todo, hs⟩ := h'; exact ⟨todo, h.trans hs⟩
 | outgrown => trivial
theorem exitTo_pass {x : Item} (hx : x.plain = true) (id : Nat) (k : List Item) : exitTo id (x :: k) = exitTo id k := by cases x <;> simp_all [exitTo, Item.plain]
theorem ArrivesR.pass {P : Program} {m : Machine} {b : Frame} {x : Item} {k : List Item} {cs : List Frame} {e : Exit} {a : Go.Act} {w : World}
 (hx : x.plain = true) (he : e ≠ .normal) (h : ArrivesR P m b (x :: k) cs e a w) : ArrivesR P m b k cs e a w := by
 cases e with
 | normal => exact (he rfl).elim
 | exit id => exact ⟨fun k' hk => h.1 k' (by rw [exitTo_pass hx]; exact hk), fun hr hk => h.2 hr (by rw [exitTo_pass hx]; exact hk)⟩
 | goto l => trivial
 | ret => exact h
 | panic chain => exact h
 | outgrown => trivial
def ExIs (c : Cx) : Ex → Exit → Prop
 | .nor, e => e = .normal
 | .exit id, e => e = .exit id
 | .ret, e => e = .ret
 | .pan v, e => ∃ u, e = .panic [⟨u, false, false⟩] ∧ relA c v u
structure GoesK (K : Nat) (c c' : Cx) : Prop where
 os : c'.w.os = c.w.os
 tape : c'.w.tape = c.w.tape
 output : c'.w.output = c.w.output
 size : c.w.heap.size ≤ c'.w.heap.size
 blk : ∀ b, b < c.w.heap.size → ¬ Wr c b → c'.w.heap[b]? = c.w.heap[b]?
 wr : ∀ b, b < c.w.heap.size → Wr c' b → Wr c b
 fb : ∀ b, b < c.w.heap.size → c'.Fb b → c.Fb b
 keep : ∀ b, c.Fb b → ¬ Wr c b → c'.Fb b
 place : ∀ (i b q : Nat), c'.bs[i]? = some (some (b, q)) → c.w.heap.size ≤ b ∨ ∃ j, c.bs[j]? = some (some (b, q)) ∧ (i = j ∨ (K ≤ i ∧ K ≤ j))
 obj : ∀ (i : Nat) o, i < K → c.h[i]? = some o → ∃ o', c'.h[i]? = some o' ∧ (o'.own = o.own ∨ o.own = .mine ∧ o'.own = .frozen) ∧
  o.b.goes c.w c'.w c.bs[i]? c'.bs[i]? o'.b
theorem Goes.toK {c c' : Cx} (K : Nat) (g : Goes c c') : GoesK K c c' :=
 ⟨g.os, g.tape, g.output, g.size, g.blk, g.wr, g.fb, g.keep, fun i b q h => (g.place i b q h).symm.imp id fun h => ⟨i, h, .inl rfl⟩, fun i o _ h => g.obj i o h⟩
theorem GoesK.full {c c' : Cx} {K : Nat} (g : GoesK K c c') (hK : c.h.length ≤ K) (hl : c.bs.length = c.h.length) : Goes c c' :=
 ⟨g.os, g.tape, g.output, g.size, g.blk, g.wr, g.fb, g.keep, fun i b q h => by
  rcases g.place i b q h with h1 | ⟨j, h1, rfl | ⟨_, h2⟩⟩
  · exact .inr h1
  · exact .inl h1
  · have := (List.getElem?_eq_some_iff.1 h1).1; omega, fun i o h => g.obj i o (by have := (List.getElem?_eq_some_iff.1 h).1; omega) h⟩
theorem GoesK.trans {K : Nat} {c c' c'' : Cx} (hfb : ∀ b, c.Fb b → b < c.w.heap.size) (h : GoesK K c c') (k : GoesK K c' c'') : GoesK K c c'' := by
 refine ⟨k.os.trans h.os, k.tape.trans h.tape, k.output.trans h.output, Nat.le_trans h.size k.size, fun b hb hn => ?_, fun b hb hw => h.wr b hb (k.wr b (Nat.lt_of_lt_of_le hb h.size) hw),
  fun b hb hw => h.fb b hb (k.fb b (Nat.lt_of_lt_of_le hb h.size) hw), fun b hb hn => ?_, fun i b q hi => ?_, fun i o hK ho => ?_⟩
 · exact (k.blk b (Nat.lt_of_lt_of_le hb h.size) fun hw => hn (h.wr b hb hw)).trans (h.blk b hb hn)
 · exact k.keep b (h.keep b hb hn) fun hw => hn (h.wr b (hfb b hb) hw)
 · rcases k.place i b q hi with h1 | ⟨j, h1, h2⟩
   · exact .inl (Nat.le_trans h.size h1)
   · rcases h.place j b q h1 with h3 | ⟨l, h3, h4⟩
     · exact .inl h3
     · refine .inr ⟨l, h3, ?_⟩
       rcases h2 with rfl | h2
       · exact h4
       · rcases h4 with rfl | h4
         · exact .inr h2
         · exact .inr ⟨h2.1, h4.2⟩
 · obtain ⟨o', h1, h2, h4⟩ := h.obj i o hK ho
   obtain ⟨o'', k1, k2, k4⟩ := k.obj i o' hK h1
   refine ⟨o'', k1, ?_, OB.goes_trans h4 k4⟩
   rcases h2 with h2 | ⟨h2, h2'⟩ <;> rcases k2 with k2 | ⟨k2, k2'⟩
   · exact .inl (k2.trans h2)
   · exact .inr ⟨h2 ▸ k2, k2'⟩
   · exact .inr ⟨h2, k2.trans h2'⟩
   · rw [h2'] at k2; cases k2
def Does (P : Program) (cfg : Cfg) (n : Nat) (m : Machine) (b : Frame) (k : List Item) (cs : List Frame) (c : Cx) (ex : Ex) (st' : St) : Prop :=
 ∃ e a' c' cs', ExIs c' ex e ∧ Sim cfg n c' st' a' ∧ GoesK st'.n0 c c' ∧ CsGo b.kind cs cs' ∧ RcIs b.roundOf b.kind cs' st'.rc ∧ ArrivesR P m b k cs' e a' c'.w
section
variable {P : Program} {cfg : Cfg} {n : Nat} {c : Cx} {st st' : St} {a : Go.Act} {X : Ext} {ex : Ex}
variable {b : Frame} {k : List Item} {cs : List Frame} {ops : Array Oper} {draw : Bool}
theorem Does.after {m m1 : Machine} {c1 : Cx} {cs1 : List Frame} (ok : Ok c) (h : Steps P m m1) (g : GoesK st'.n0 c c1) (hcs : CsGo b.kind cs cs1) (d : Does P cfg n m1 b k cs1 c1 ex st') : Does P cfg n m b k cs c ex st' := by
 obtain ⟨e, a', c', cs', h1, h2, h3, h4, h5, h6⟩ := d
 exact ⟨e, a', c', cs', h1, h2, GoesK.trans ok.fbs g h3, hcs.trans h4, h5, ArrivesR.of_steps h h6⟩
theorem Does.head {m m1 : Machine} (h : Steps P m m1) (d : Does P cfg n m1 b k cs c ex st') : Does P cfg n m b k cs c ex st' := by
 obtain ⟨e, a', c', cs', h1, h2, h3, h4, h5, h6⟩ := d
 exact ⟨e, a', c', cs', h1, h2, h3, h4, h5, ArrivesR.of_steps h h6⟩
inductive Match (P : Program) (cfg : Cfg) (n : Nat) (ops : Array Oper) (draw : Bool) : List Nat → List Ins → Prop
 | nil : Match P cfg n ops draw [] []
 | cons {i : Nat} {o : Oper} {ins : Ins} {l : List Nat} {is : List Ins} (ho : ops[i]? = some o) (hc : compIns P cfg n ops draw o = some ins) (h : Match P cfg n ops draw l is) : Match P cfg n ops draw (i :: l) (ins :: is)
theorem preOk_get : ∀ {n : Nat} {fp : List Nat}, preOk n fp = true → ∀ i, i < n → fp[i]? = some i
 | n + 1, fp, h, i, hi => by
  simp only [preOk, Bool.and_eq_true] at h
  by_cases e : i = n
  · subst e
    have h2 := h.2
    split at h2
    · rename_i j hj; rw [hj, Nat.eq_of_beq_eq_true h2]
    · cases h2
  · exact preOk_get h.1 i (by omega)
theorem look_get {fp : List Nat} {fr : Nat → AV} : ∀ {keep : List Nat} {vs : List (Nat × AV)}, gcv fp fr keep = some vs → ∀ t, look vs t = .junk ∨ ren (place · fp) (fr t) = some (look vs t)
 | [], vs, h, t => by simp only [gcv, Option.some.injEq] at h; subst h; exact .inl rfl
 | u :: l, vs, h, t => by
  simp only [gcv] at h
  split at h
  · rename_i v r h1 h2
    cases h
    simp only [look]
    cases hb : Nat.beq t u with
    | true => cases Nat.eq_of_beq_eq_true hb; exact .inr h1
    | false => exact look_get h2 t
  · cases h
theorem DsRel_ren {c c' : Cx} {fp : List Nat} (M : MapOk c c' (place · fp)) : ∀ {ds ds' : List (Mode × Nat × List AV)} {l : List Deferred}, gcd fp ds = some ds' → DsRel c ds l → DsRel c' ds' l
 | [], ds', l, h, hd => by simp only [gcd, Option.some.injEq] at h; subst h; exact hd
 | (m, f, args) :: ds, ds', l, h, hd => by
  simp only [gcd] at h
  split at h
  · rename_i args' r h1 h2
    cases h
    obtain ⟨d, ds2, e, a1, a3⟩ := hd
    refine ⟨d, ds2, e, ?_, DsRel_ren M h2 a3⟩
    rcases a1 with ⟨b1, cap, b2, b3⟩ | ⟨b1, m', num, j, b, b2, b3, b4⟩
    · exact .inl ⟨b1, cap, b2, relL_ren M _ _ _ b3 h1⟩
    · subst b2
      simp only [ren.renL] at h1
      split at h1
      · rename_i y ys hy hys
        cases h1
        cases hys
        have hy' := hy
        simp only [ren, Option.map_eq_some_iff] at hy'
        obtain ⟨j', _, rfl⟩ := hy'
        exact .inr ⟨b1, m', num, j', b, rfl, relA_ren M _ _ _ b3 hy, b4⟩
      · cases h1
  · cases h
theorem gc_ok (sim : Sim cfg n c st a) {keep : List Nat} (h : gc keep st = some st') : ∃ c', c'.w = c.w ∧ Sim cfg n c' st' a ∧ GoesK st.n0 c c' := by
 obtain ⟨fp, g, g', vs, ds, h1, h2, h3, h4, h5, h6, rfl⟩ := gc_parts h
 have hh := sim.h
 have ok := sim.ok
 rw [← hh] at h1 h3
 have S : Sub c id fp g' := by
  obtain ⟨k1, k2⟩ := gather_get h3
  obtain ⟨l1, l2⟩ := renH_get h6
  refine ⟨reach_nodup _ _ _ _ _ List.nodup_nil h1, by rw [l1, k1], fun k o' hk => ?_⟩
  obtain ⟨o, m1, m2, m2', m3⟩ := l2 k o' hk
  obtain ⟨i, m4, m5⟩ := k2 k o m1
  exact ⟨i, o, m4, m5, m2, m2', m3⟩
 have okc : Ok (c.sub fp g') := by
  have := Sub.ok ok S (T := []) (fun i hi => by cases hi) (fun o => Iff.rfl)
  rwa [goes_tell_nil] at this
 have M : MapOk c (c.sub fp g') (place · fp) := S.map ok rfl rfl rfl fun b h => h
 have pre := preOk_get h2
 have key : ∀ (k b q : Nat), (c.sub fp g').bs[k]? = some (some (b, q)) → ∃ i, fp[k]? = some i ∧ c.bs[i]? = some (some (b, q)) := by
  intro k b q hk
  simp only [Cx.sub, List.getElem?_map, Option.map_eq_some_iff] at hk
  obtain ⟨i, h1, h2⟩ := hk
  refine ⟨i, h1, ?_⟩
  cases hb : c.bs[i]? with
  | none => rw [hb] at h2; cases h2
  | some x => rw [hb] at h2; simp at h2; rw [h2]
 refine ⟨c.sub fp g', rfl, ⟨rfl, okc, sim.glob.stays ⟨fun b o v hn hc => ⟨hn, hc⟩, fun _ _ _ _ _ => rfl⟩, sim.size, fun t ht => ?_, DsRel_ren M h5 sim.ds⟩, ?_⟩
 · rcases look_get h4 t with e | e
   · simp only [e, relA]
   · exact relA_ren M _ _ _ (sim.tmp t ht) e
 · refine ⟨rfl, rfl, rfl, Nat.le_refl _, fun _ _ _ => rfl, fun b hb hw => ?_, fun _ _ h => h, fun _ h _ => h, fun i b q hi => ?_, fun i o hi ho => ?_⟩
   · obtain ⟨k, q, ty, x, e1, e2⟩ := hw
     obtain ⟨i, o, f1, f2, f3, f4, f5⟩ := S.obj k _ e1
     obtain ⟨i', f6, f7⟩ := key k b q e2
     rw [f1] at f6
     cases f6
     obtain ⟨own, ty', x'⟩ := o
     simp only [id] at f3
     subst f3
     exact ⟨i, q, ty', x', f2, f7⟩
   · obtain ⟨j, e1, e2⟩ := key i b q hi
     refine .inr ⟨j, e2, ?_⟩
     by_cases hin : i < st.n0
     · have := pre i hin; rw [e1] at this; cases this; exact .inl rfl
     · by_cases hjn : j < st.n0
       · have := pre j hjn
         exact .inl (nodup_get S.nodup e1 this)
       · exact .inr ⟨by omega, by omega⟩
   · have hfp := pre i hi
     have hlt : i < g'.length := by rw [S.len]; exact (List.getElem?_eq_some_iff.1 hfp).1
     obtain ⟨i', o2, f1, f2, f3, f4, f5⟩ := S.obj i g'[i] (List.getElem?_eq_getElem hlt)
     rw [hfp] at f1
     cases f1
     rw [ho] at f2
     cases f2
     refine ⟨g'[i], List.getElem?_eq_getElem hlt, .inl f3, ?_⟩
     have hbs := sub_bs ok.len (g := g') hfp ho
     rw [hbs]
     cases hob : o.b with
     | fix cs =>
      rw [hob] at f5
      obtain ⟨cs', e1, e2⟩ := renO_fix f5
      rw [e1]
      exact ⟨(renL_get e2).1, rfl⟩
     | lp num s caps =>
      rw [hob] at f5
      obtain ⟨cs', e1, e2⟩ := renO_lp f5
      rw [e1]
      exact ⟨rfl, rfl⟩
     | arr nl gg sz rows =>
      rw [hob] at f5
      rw [renO_arr f5]
      simp [OB.goes, Cx.sub]
theorem ops_ok {d : Bool} (hX : CallOk P cfg X.call) : ∀ {l : List Nat} {is : List Ins}, Match P cfg n ops draw l is → ∀ {st : St} {c : Cx} {a : Go.Act} {cs : List Frame}, runI X d is st = some (ex, st') → Sim cfg n c st a → RcIs b.roundOf b.kind cs st.rc →
 Does P cfg n (lone (b.atR a (.inRegion ops l :: k)) cs c.w) b k cs c ex st'
 | _, _, .nil, st, c, a, cs, hr, sim, hrc => by
  simp only [runI, Option.some.injEq, Prod.mk.injEq] at hr
  obtain ⟨rfl, rfl⟩ := hr
  exact ⟨.normal, a, c, cs, rfl, sim, (Goes.refl c).toK _, CsGo.refl _ _, hrc, .one stepR_region_end⟩
 | _, _, @Match.cons _ _ _ _ _ i o ins l is ho hc h, st, c, a, cs, hr, sim, hrc => by
  simp only [runI] at hr
  split at hr
  · rename_i hg
    split at hr
    · rename_i st1 hs
      rcases op_step (k := k) (rest := l) hX ho hc sim hrc hg hs with ⟨_, a1, c1, cs1, h1, h2, h3, h4, h5⟩ | ⟨v, u, c1, todo, e, _⟩
      · exact Does.after sim.ok h1 (h3.toK _) h4 (ops_ok hX h hr h2 h5)
      · cases e
    · rename_i hs
      rcases hq : stepI X d _ st with _ | ⟨ex1, st1⟩
      · rw [hq] at hr; cases hr
      · rw [hq] at hr
        cases hr
        rcases op_step (k := k) (rest := l) hX ho hc sim hrc hg hq with ⟨e, _⟩ | ⟨v, u, c1, todo, rfl, h1, h2, h3, h4, h5⟩
        · subst e; exact (hs _ hq).elim
        · exact ⟨.panic [⟨u, false, false⟩], a, c1, cs, ⟨u, rfl, h2⟩, h3, h4.toK _, CsGo.refl _ _, h5, todo, h1⟩
  · rename_i hg
    obtain ⟨h1, h2⟩ := skip_step (b := b) (k := k) (cs := cs) (rest := l) ho hc sim hg
    exact Does.after sim.ok h1 ((Goes.refl c).toK _) (CsGo.refl _ _) (ops_ok hX h hr h2 hrc)
  · cases hr
theorem match_of : ∀ {l : List Oper} {is : List Ins} {pre : List Oper}, compInss P cfg n ops draw l = some is → ops.toList = pre ++ l → Match P cfg n ops draw (List.range' pre.length l.length) is
 | [], is, pre, h, e => by simp only [compInss, Option.some.injEq] at h; subst h; exact .nil
 | o :: l, is, pre, h, e => by
  simp only [compInss] at h
  split at h
  · rename_i i is' h1 h2
    cases h
    have ho : ops[pre.length]? = some o := by
     rw [← Array.getElem?_toList, e]; simp
    have := match_of (pre := pre ++ [o]) h2 (by simp [e])
    simp only [List.length_append, List.length_cons, List.length_nil, Nat.zero_add] at this
    exact .cons ho h1 this
  · cases h
end
end Go.Proofs.YtlhajccbfapieaaGreatDoor.Ab
