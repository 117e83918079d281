/- Ranges over functions: the record and the block of deferred calls; the whole statement. -/
import Derived.Test.YtlhajccbfapieaaGreatDoorAbDraw5
import Derived.RangeFuncRecord
namespace Go.Proofs.YtlhajccbfapieaaGreatDoor.Ab
open Go
set_option linter.unusedVariables false
set_option linter.unusedSimpArgs false
section
variable {c : Cx}
def Cx.moreX (c : Cx) (o : Obj) (y : Go.Obj) : Cx := { w := c.w.alloc y, Fb := fun b => c.Fb b ∨ b = c.w.heap.size, h := c.h ++ [o], bs := c.bs ++ [some (c.w.heap.size, 0)] }
theorem goes_moreX (ok : Ok c) (o : Obj) (y : Go.Obj) : Goes c (c.moreX o y) where
 os := rfl
 tape := rfl
 output := rfl
 size := by show _ ≤ (c.w.alloc _).heap.size; rw [size_alloc]; omega
 blk b hb _ := heap_alloc_lt hb
 wr b hb hw := by
  obtain ⟨i, q, ty, x, h1, h2⟩ := hw
  simp only [Cx.moreX] at h1 h2
  rcases getElem?_snoc_cases h1 with h1 | ⟨h1, _⟩
  · rw [List.getElem?_append_left (by rw [ok.len]; exact (List.getElem?_eq_some_iff.1 h1).1)] at h2
    exact ⟨i, q, ty, x, h1, h2⟩
  · rw [h1, List.getElem?_append_right (by rw [ok.len]; exact Nat.le_refl _), ok.len] at h2
    simp at h2
    omega
 fb b hb h := h.resolve_right (by omega)
 keep b hb _ := .inl hb
 place i b q hi := by
  rcases getElem?_snoc_cases (show (c.bs ++ [_])[i]? = _ from hi) with h | ⟨_, h⟩
  · exact .inl h
  · cases h; exact .inr (Nat.le_refl _)
 obj i x hx := ⟨x, getElem?_snoc_lt hx, .inl rfl, by
  have hi : (c.moreX o y).bs[i]? = c.bs[i]? := by
   simp only [Cx.moreX]
   exact List.getElem?_append_left (by rw [ok.len]; exact (List.getElem?_eq_some_iff.1 hx).1)
  rw [hi]
  cases hxb : x.b with
  | fix => simp [OB.goes]
  | lp => simp [OB.goes]
  | arr nl g sz rows =>
   simp only [OB.goes, Nat.le_refl, true_and, forall_const]
   intro b q hb
   exact csize_heap (heap_alloc_lt (ok.block_lt hb))⟩
theorem ok_moreX (ok : Ok c) {o : Obj} {y : Go.Obj} (ho : relO (c.moreX o y) c.h.length o) : Ok (c.moreX o y) where
 len := by simp [Cx.moreX, ok.len]
 apart i j b q q' hi hj := by
  simp only [Cx.moreX] at hi hj
  rcases getElem?_snoc_cases hi with h1 | ⟨h1, e1⟩ <;> rcases getElem?_snoc_cases hj with h2 | ⟨h2, e2⟩
  · exact ok.apart i j b q q' h1 h2
  · have := ok.block_lt h1; cases e2; omega
  · have := ok.block_lt h2; cases e1; omega
  · omega
 fbs b hb := by
  simp only [Cx.moreX] at hb ⊢
  rw [size_alloc]
  rcases hb with hb | hb
  · have := ok.fbs b hb; omega
  · omega
 obj i x hx := by
  rcases getElem?_snoc_cases (show (c.h ++ [o])[i]? = some x from hx) with h1 | ⟨h1, rfl⟩
  · have hi : i < c.bs.length := by rw [ok.len]; exact (List.getElem?_eq_some_iff.1 h1).1
    refine relO_goes (goes_moreX ok o y) ok (ok.obj i x h1) (by simp only [Cx.moreX]; exact List.getElem?_append_left hi) (fun b q hb => heap_alloc_lt (ok.block_lt hb)) fun b q hb => ?_
    simp only [Cx.moreX]
    constructor
    · rintro (h | h)
      · exact h
      · have := ok.block_lt hb; omega
    · exact .inl
  · rw [h1]; exact ho
def Cx.lpSet (c : Cx) (i b : Nat) (x : Go.Obj) (ty : Nat) (ob : OB) : Cx := { c with w := c.w.putObj b x, h := c.h.set i ⟨.mine, ty, ob⟩ }
theorem goes_lpSet (ok : Ok c) {i b ty num s s' : Nat} {caps caps' : List AV} (hi : c.h[i]? = some ⟨.mine, ty, .lp num s caps⟩) (hb : c.bs[i]? = some (some (b, 0))) (x : Go.Obj) : Goes c (c.lpSet i b x ty (.lp num s' caps')) := by
 refine ⟨rfl, rfl, rfl, Nat.le_of_eq World.putObj_size.symm, fun b' _ hn => World.putObj_heap_other (fun e => by subst e; exact hn ⟨i, 0, ty, _, hi, hb⟩), fun b' _ hw => ?_, fun _ _ h => h, fun _ h _ => h, fun _ _ _ h => .inl h, fun j y hy => ?_⟩
 · obtain ⟨j, q', ty', y, h1, h2⟩ := hw
   rcases getElem?_set_cases (show (c.h.set i _)[j]? = some _ from h1) with ⟨rfl, e⟩ | ⟨_, h1⟩
   · exact ⟨j, q', ty, _, hi, h2⟩
   · exact ⟨j, q', ty', y, h1, h2⟩
 · by_cases hj : j = i
   · subst hj
     rw [hi] at hy
     cases hy
     refine ⟨⟨.mine, ty, .lp num s' caps'⟩, ?_, .inl rfl, rfl, rfl⟩
     simp only [Cx.lpSet]
     rw [List.getElem?_set_self (List.getElem?_eq_some_iff.1 hi).1]
   · refine ⟨y, by simp only [Cx.lpSet]; rw [List.getElem?_set_ne (Ne.symm hj)]; exact hy, .inl rfl, ?_⟩
     simp only [Cx.lpSet]
     cases hyb : y.b with
     | fix => simp [OB.goes]
     | lp => simp [OB.goes]
     | arr =>
      simp only [OB.goes, Nat.le_refl, true_and, forall_const]
      exact fun b' q hb' => csize_heap (World.putObj_heap_other (fun e => by subst e; exact hj (ok.apart j i _ q 0 hb' hb)))
theorem lp_rel (ok : Ok c) {i ty num s : Nat} {own : Own} {caps : List AV} (hi : c.h[i]? = some ⟨own, ty, .lp num s caps⟩) :
 ∃ b, c.bs[i]? = some (some (b, 0)) ∧ b < c.w.heap.size ∧ (own ≠ .frozen → c.Fb b) ∧ ∃ vs, relL c caps vs ∧ lpIs c.w num s vs b := by
 have := ok.obj i _ hi
 simpa only [relO] using this
theorem lp_to (ok : Ok c) {i b ty num s s' : Nat} {caps caps' : List AV} {vs' : List Value} (hi : c.h[i]? = some ⟨.mine, ty, .lp num s caps⟩) (hb : c.bs[i]? = some (some (b, 0))) {x : Go.Obj} (hr : relL c caps' vs')
 (hl : lpIs (c.w.putObj b x) num s' vs' b) : Ok (c.lpSet i b x ty (.lp num s' caps')) ∧ Goes c (c.lpSet i b x ty (.lp num s' caps')) := by
 have G : Goes c (c.lpSet i b x ty (.lp num s' caps')) := goes_lpSet ok hi hb x
 refine ⟨⟨by simp [Cx.lpSet, ok.len], ok.apart, fun b' h => by simp only [Cx.lpSet]; rw [World.putObj_size]; exact ok.fbs b' h, fun j y hy => ?_⟩, G⟩
 rcases getElem?_set_cases (show (c.h.set i _)[j]? = some _ from hy) with ⟨rfl, rfl⟩ | ⟨hj, hy⟩
 · obtain ⟨b0, h1, h2, h3, _⟩ := lp_rel ok hi
   rw [hb] at h1
   cases h1
   simp only [relO]
   exact ⟨b, hb, by simp only [Cx.lpSet]; rw [World.putObj_size]; exact h2, fun _ => h3 (by simp), vs', relL_goes G ok _ _ hr, hl⟩
 · exact relO_goes G ok (ok.obj j y hy) rfl (fun b' q' hb' => World.putObj_heap_other (fun e => by subst e; exact hj (ok.apart j i _ q' 0 hb' hb))) fun _ _ _ => Iff.rfl
end
section
variable {P : Program} {cfg : Cfg} {n : Nat} {c : Cx} {st st' : St} {a : Go.Act} {X : Ext} {ex : Ex}
variable {b : Frame} {k : List Item} {cs : List Frame}
theorem evT_rel (sim : Sim cfg n c st a) : ∀ {keep : List Nat}, keep.all (Nat.blt · n) = true → relL c (evT st.fr keep) (keep.map fun t => a.tmps.getD t undef)
 | [], _ => rfl
 | t :: l, h => by
  simp only [List.all_cons, Bool.and_eq_true] at h
  simp only [evT, List.map_cons]
  exact relL_cons.2 ⟨sim.tmp t (blt_lt h.1), evT_rel sim h.2⟩
theorem stepR_rangeFuncV {g : Operand} {ps : Array Tmp} {assign body : Code} {l : Nat} {mark : List Deferred} {w w₁ w₁' w₂ : World} {d : Deferred} {v : Value}
 (he : (Instr.enterLoop b.fn a.tmps ps assign body b.roundOf).run P w = .ok (l, mark) w₁)
 (hres : (resolve a.eval (rangeCall g l) 0).run P w₁ = .ok d w₁') (hinv : (invoke d.target d.args).run P w₁' = .ok (.value v) w₂) :
 step P (lone (b.atR a (.code (.rangeFunc g ps assign body) :: k)) cs w) = .next (lone (b.atR { a with defers := mark ++ a.defers } (.endRangeFunc l :: k)) cs w₂) :=
 step_lone_go (by
  have hev := Frame.eval_atR b { a with defers := mark ++ a.defers } (.inRangeFunc l :: k)
  simp only [Frame.atR] at hev
  have hres' : Sem.run P (resolve ({ tmps := a.tmps, defers := mark ++ a.defers } : Go.Act).eval { callee := .value g, args := #[.const (.func (.yield l) #[] #[])], argTypes := #[] } 0) w₁ = .ok d w₁' := hres
  simp [stepG, stepG.exec, Frame.atR, Sem.runT_eq, he, GStep.bare_after, stepG.apply, hev, Sem.run_bind, hres', hinv, Result.andThen, Frame.finish])
theorem rngEnd_parts {i : Nat} {h h' : Heap} {ex : Ex} (e : rngEnd i h = some (ex, h')) : ∃ ty num s caps, h[i]? = some ⟨.mine, ty, .lp num s caps⟩ ∧ h' = h.set i ⟨.mine, ty, .lp num 3 []⟩ ∧ ((s = 0 ∧ ex = .nor) ∨ (s = 2 ∧ ex = .ret) ∨ ∃ id, s = id + 7 ∧ ex = .exit id) := by
 unfold rngEnd at e
 split at e
 · rename_i ty num s caps h1
   split at e
   · cases e; exact ⟨ty, num, _, caps, h1, rfl, .inl ⟨rfl, rfl⟩⟩
   · cases e; exact ⟨ty, num, _, caps, h1, rfl, .inr (.inl ⟨rfl, rfl⟩)⟩
   · rename_i id; cases e; exact ⟨ty, num, _, caps, h1, rfl, .inr (.inr ⟨id, rfl, rfl⟩)⟩
   · cases e
 · cases e
theorem rng_ok (hX : CallOk P cfg X.call) {num : Nat} {keep : List Nat} {f : Operand} {f' : Opd} {ps : Array Tmp} {asg body : Code} (hsite : theSite num = some ⟨ps, asg, body, keep, n⟩) (hk : keep.all (Nat.blt · n) = true)
 (h0 : compOpd cfg n f = some f') (hr : runC X (.rng num keep f') st = some (ex, st')) (sim : Sim cfg n c st a) (hrc : RcIs b.roundOf b.kind cs st.rc) :
 Does P cfg n (lone (b.atR a (.code (.rangeFunc f ps asg body) :: k)) cs c.w) b k cs c ex st' := by
 simp only [runC] at hr
 split at hr
 · cases hr
 · rename_i m ff first cap hf hnr
   split at hr
   · rename_i hlt
     have hlt := blt_lt hlt
     split at hr
     · rename_i x h1 rc1 hcall
       split at hr
       · rename_i ex' h2 hend
         cases hr
         have hro : b.roundOf = none := hrc.none fun e => hnr e
         have hlen := sim.ok.len
         -- the two blocks
         let rec0 : Loop := { state := .ready, pending := none, fn := b.fn, tmps := a.tmps, params := ps, assign := asg, body := body, defers := c.w.heap.size }
         let c1 : Cx := c.moreX ⟨.mine, 0, .lp 0 5 []⟩ (.deferred (some []))
         have ok1 : Ok c1 := by
          refine ok_moreX sim.ok ?_
          simp only [relO]
          refine ⟨c.w.heap.size, by simp [Cx.moreX, ← hlen], by simp only [Cx.moreX]; rw [size_alloc]; omega, fun _ => .inr rfl, [], rfl, fun _ => heap_alloc_new, fun h => absurd rfl h⟩
         have G1 : Goes c c1 := goes_moreX sim.ok _ _
         let c2 : Cx := c1.moreX ⟨.mine, 0, .lp num 0 (evT st.fr keep)⟩ (.loop rec0)
         have G2 : Goes c1 c2 := goes_moreX ok1 _ _
         have hs1 : c1.w.heap.size = c.w.heap.size + 1 := size_alloc
         have hl1 : c1.h.length = c.h.length + 1 := by simp [c1, Cx.moreX]
         have hbl1 : c1.bs.length = c.h.length + 1 := by simp [c1, Cx.moreX, hlen]
         have ok2 : Ok c2 := by
          refine ok_moreX ok1 ?_
          simp only [relO]
          refine ⟨c.w.heap.size + 1, ?_, by show _ < (c1.w.alloc _).heap.size; rw [size_alloc]; omega, fun _ => .inr hs1.symm, _, relL_goes (Goes.trans sim.ok.fbs G1 G2) sim.ok _ _ (evT_rel sim hk), fun h => by omega, fun _ _ => ⟨_, rec0, hsite, ?_, rfl, rfl, rfl, ?_, fun _ => ⟨sim.size, rfl⟩⟩⟩
          · simp only [Cx.moreX]
            rw [hs1, hl1, ← hbl1]
            simp
          · show (c1.w.alloc _).heap[c.w.heap.size + 1]? = _
            rw [← hs1]; exact heap_alloc_new
          · refine ⟨fun _ => ⟨rfl, rfl⟩, fun h => by omega, fun h => by omega, fun id h => by omega⟩
         have G12 : Goes c c2 := Goes.trans sim.ok.fbs G1 G2
         have hh2 : c2.h = rngH num keep st.fr st.h := by simp [c2, c1, Cx.moreX, rngH, sim.h]
         have hy2 : relA c2 (.yld .opn num (st.h.length + 1)) (.func (.yield (c.w.heap.size + 1)) #[] #[]) := by
          simp only [relA]
          refine ⟨.mine, 0, 0, evT st.fr keep, c.w.heap.size + 1, ?_, ?_, rfl⟩
          · rw [← sim.h, ← hl1]; simp [c2, Cx.moreX]
          · rw [← sim.h, ← hbl1]
            show (c1.bs ++ [some (c1.w.heap.size, 0)])[_]? = _
            rw [hs1]; simp
         have hf2 := opd_rel sim h0
         rw [hf] at hf2
         simp only [relA] at hf2
         obtain ⟨vs, us, efn, r1, r2⟩ := hf2
         have hargs : relL c2 (first ++ [.yld .opn num (st.h.length + 1)] ++ cap) (vs ++ #[Value.func (.yield (c.w.heap.size + 1)) #[] #[]] ++ us).toList := by
          simp only [Array.toList_append]
          exact relL_append (relL_append (relL_goes G12 sim.ok _ _ r1) (relL_cons.2 ⟨hy2, rfl⟩)) (relL_goes G12 sim.ok _ _ r2)
         let a' : Go.Act := { a with defers := [{ target := .collected c.w.heap.size, args := #[] }] ++ a.defers }
         obtain ⟨c3, e, ok3, G3, hh3, ⟨v, rfl, hv⟩, hdone⟩ := callM_ok hX hcall hlt ok2 (sim.glob.goes sim.ok G12) hh2 hargs (kind := .normal) (cs := b.atR a' (.inRangeFunc (c.w.heap.size + 1) :: k) :: cs) ⟨rfl, rfl⟩
         have he : (Instr.enterLoop b.fn a.tmps ps asg body b.roundOf).run P c.w = .ok (c.w.heap.size + 1, [{ target := .collected c.w.heap.size, args := #[] }]) c2.w := by
          rw [hro]; exact run_enterLoop_outer _ _ _ _ _
         have hres : (resolve a.eval (rangeCall f (c.w.heap.size + 1)) 0).run P c2.w = .ok { target := .fn (.func ff) us, args := vs ++ #[Value.func (.yield (c.w.heap.size + 1)) #[] #[]] } c2.w := by
          simp only [resolve, rangeCall, efn, Deferred.ofValue, Sem.run_pure]
          simp [Go.Act.eval]
         have hst : Steps P (lone (b.atR a (.code (.rangeFunc f ps asg body) :: k)) cs c.w) (lone (b.atR a' (.endRangeFunc (c.w.heap.size + 1) :: k)) cs c3.w) := by
          rcases hdone with ⟨hent, fr, cs', hgo, hrc', hst, hfn, hk', hgoing⟩ | ⟨_, _, v', e', hval⟩
          · have hcs : cs' = _ := hgo.normal
            subst hcs
            refine .head (stepR_rangeFunc he hres (by simp only [invoke]; exact hent)) (hst.trans (.one ?_))
            rw [← finish_atR_inRangeFunc (v := v)]
            obtain ⟨g1, g2, fn, g3, g4⟩ := hgoing
            exact step_leave_returned ⟨g1, g2, hk', fn, g3, g4⟩
          · exact .one (stepR_rangeFuncV he hres (by simp only [invoke]; exact hval))
         -- the record, over
         obtain ⟨ty, num1, s, caps, ho3, rfl, hex⟩ := rngEnd_parts hend
         have hh3 : c3.h = h1 := hh3
         rw [← hh3] at ho3
         have ho2 : c2.h[st.h.length + 1]? = some ⟨.mine, 0, .lp num 0 (evT st.fr keep)⟩ := by rw [← sim.h, ← hl1]; simp [c2, Cx.moreX]
         have hb2 : c2.bs[st.h.length + 1]? = some (some (c.w.heap.size + 1, 0)) := by
          rw [← sim.h, ← hbl1]
          show (c1.bs ++ [some (c1.w.heap.size, 0)])[_]? = _
          rw [hs1]; simp
         obtain ⟨o', q1, _, q3⟩ := G3.obj _ _ ho2
         rw [ho3] at q1
         cases q1
         simp only [OB.goes] at q3
         obtain ⟨rfl, q4⟩ := q3
         rw [hb2] at q4
         obtain ⟨b3, p1, p2, p3, vs3, p4, p5⟩ := lp_rel ok3 ho3
         rw [q4] at p1
         cases p1
         obtain ⟨site, r, s1, s2, s3, s4, s5, s6, s7⟩ := p5.2 (by rcases hex with ⟨h, _⟩ | ⟨h, _⟩ | ⟨id, h, _⟩ <;> omega) (by rcases hex with ⟨h, _⟩ | ⟨h, _⟩ | ⟨id, h, _⟩ <;> omega)
         have hnb : r.state ≠ .busy := by
          rcases hex with ⟨h, _⟩ | ⟨h, _⟩ | ⟨id, h, _⟩
          · rw [(s6.1 h).1]; simp
          · rw [(s6.2.2.1 h).1]; simp
          · rw [(s6.2.2.2 id h).1]; simp
         have hel := run_endLoop (P := P) s2 hnb
         obtain ⟨ok4, G4⟩ := lp_to (s' := 3) (caps' := []) (vs' := []) (x := .loop { r with state := .exhausted }) ok3 ho3 q4 rfl
          ⟨fun h => by omega, fun _ _ => ⟨site, _, s1, World.putObj_heap_same p2, s3, s4, s5, ⟨fun h => by omega, fun h => by omega, fun h => by omega, fun id h => by omega⟩, fun h => absurd rfl h⟩⟩
         have GG : Goes c (c3.lpSet (st.h.length + 1) (c.w.heap.size + 1) (.loop { r with state := .exhausted }) ty (.lp num1 3 [])) := Goes.trans sim.ok.fbs G12 (Goes.trans ok2.fbs G3 G4)
         have hD : relA c1 (.yld .pure 0 st.h.length) (.func (.yield c.w.heap.size) #[] #[]) := by
          simp only [relA]
          refine ⟨.mine, 0, 5, [], c.w.heap.size, by rw [← sim.h]; simp [c1, Cx.moreX], by rw [← sim.h, ← hlen]; simp [c1, Cx.moreX], rfl⟩
         have sim4 : Sim cfg n (c3.lpSet (st.h.length + 1) (c.w.heap.size + 1) (.loop { r with state := .exhausted }) ty (.lp num1 3 [])) { st with h := h1.set (st.h.length + 1) ⟨.mine, ty, .lp num1 3 []⟩, ds := rngDs st.h.length :: st.ds } a' := by
          refine ⟨by simp only [Cx.lpSet, hh3], ok4, sim.glob.goes sim.ok GG, sim.size, fun t ht => relA_goes GG sim.ok _ _ (sim.tmp t ht), ?_⟩
          exact ⟨_, a.defers, rfl, .inr ⟨rfl, .pure, 0, st.h.length, c.w.heap.size, rfl, relA_goes (Goes.trans ok1.fbs G2 (Goes.trans ok2.fbs G3 G4)) ok1 _ _ hD, rfl⟩, sim.ds.goes GG sim.ok⟩
         have s8 := stepR_endRangeFunc (P := P) (b := b) (a := a') (k := k) (cs := cs) hel
         refine ⟨match ex with | .nor => .normal | .ret => .ret | .exit id => .exit id | .pan v => .normal, a', _, cs, ?_, sim4, GG.toK _, CsGo.refl _ _, hrc, ?_⟩
         · rcases hex with ⟨_, rfl⟩ | ⟨_, rfl⟩ | ⟨id, _, rfl⟩ <;> rfl
         · refine ArrivesR.of_steps (hst.trans (.one s8)) ?_
           rcases hex with ⟨h, rfl⟩ | ⟨h, rfl⟩ | ⟨id, h, rfl⟩
           · rw [(s6.1 h).2]; exact Steps.refl P _
           · rw [(s6.2.2.1 h).2]
             exact ⟨fun _ => ⟨_, .one (stepR_ret hro)⟩, fun h => by rw [hro] at h; cases h⟩
           · rw [(s6.2.2.2 id h).2]
             exact ⟨fun k' hk => .one (stepR_exit hk), fun h => by rw [hro] at h; cases h⟩
       · cases hr
     · cases hr
   · cases hr
 · cases hr
end
end Go.Proofs.YtlhajccbfapieaaGreatDoor.Ab
