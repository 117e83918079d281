/- What a call is handed and hands back, where its new objects stay. -/
import Derived.Test.YtlhajccbfapieaaGreatDoorAbCalls
namespace Go.Proofs.YtlhajccbfapieaaGreatDoor.Ab
open Go
set_option linter.unusedVariables false
set_option linter.unusedSimpArgs false
section
variable {c : Cx}
set_option maxHeartbeats 800000 in
theorem opn_ctx (ok : Ok c) {args : List AV} {x : Handed} (hh : hand .opn c.h args = some x) {vals : List Value} (hargs : relL c args vals) :
 ∃ cc, cc.w = c.w ∧ cc.h = x.h ∧ Ok cc ∧ relL cc x.args vals ∧ Stays c.w c.Fb cc.w cc.Fb ∧
  ∀ cc' r r' e, Ok cc' → Goes cc cc' → cc'.h = r.h → CR.rel cc' r.r e → back .opn c.h x r = some r' → ∃ c', c'.w = cc'.w ∧ c'.h = r'.h ∧ Ok c' ∧ Goes c c' ∧ CR.rel c' r'.r e ∧ r'.rc = r.rc := by
 simp only [hand] at hh
 obtain ⟨S, hren, ht, _⟩ := sub_mk hh
 have M := S.map ok (c0 := c.tell []) rfl rfl rfl (fun b h => h.1)
 have okc : Ok ((c.tell []).sub x.fp x.h) := S.ok ok (fun i h => by cases h) (fun o => by simp)
 refine ⟨(c.tell []).sub x.fp x.h, rfl, rfl, okc, relL_ren M _ _ _ hargs hren, stays_tell c _, ?_⟩
 intro cc' r r' e ok' G hrh hrel hb
 simp only [back] at hb
 split at hb
 · rename_i g cr hg hcr
   split at hb
   · rename_i h' hput
     cases hb
     have hfpl : x.h.length = x.fp.length := S.len
     obtain ⟨p1, p2, p3⟩ := putBack_get S.nodup hput
     obtain ⟨b1, b2⟩ := renH_get hg
     have hcclen : x.fp.length ≤ cc'.h.length := by
      rcases Nat.eq_zero_or_pos x.fp.length with h0 | h0
      · omega
      · have hk : x.fp.length - 1 < x.h.length := by omega
        obtain ⟨o', e1, _⟩ := G.obj (x.fp.length - 1) _ (show ((c.tell []).sub x.fp x.h).h[x.fp.length - 1]? = some _ from List.getElem?_eq_getElem hk)
        have := (List.getElem?_eq_some_iff.1 e1).1
        omega
     have hplace : ∀ (k i : Nat), x.fp[k]? = some i → place i x.fp = some k := by
      intro k i hk
      cases hp : place i x.fp with
      | none =>
       exfalso
       have : ∀ (l : List Nat), place i l = none → i ∉ l := by
        intro l
        induction l with
        | nil => intro _ h; cases h
        | cons j l ih =>
         intro h1 h2
         simp only [place] at h1
         split at h1
         · cases h1
         · rename_i hne
           split at h1
           · cases h1
           · rename_i hn2
             rcases List.mem_cons.1 h2 with rfl | h3
             · simp at hne
             · exact ih hn2 h3
       exact this _ hp (List.mem_of_getElem? hk)
      | some k' => exact congrArg some (nodup_get S.nodup (place_get hp) hk)
     let bs1 : List (Option (Nat × Nat)) := (List.range c.bs.length).map fun i => match place i x.fp with
      | some j => (cc'.bs[j]?).getD none
      | none => (c.bs[i]?).getD none
     have hb1 : bs1.length = c.h.length := by simp [bs1, ok.len]
     let c' : Cx := { w := cc'.w, Fb := cc'.Fb, h := h' ++ g.drop x.fp.length, bs := bs1 ++ cc'.bs.drop x.fp.length }
     have hgl : g.length = cc'.h.length := by rw [b1, hrh]
     -- where an object stands
     have lkIn : ∀ (k i : Nat), x.fp[k]? = some i → c'.bs[i]? = cc'.bs[k]? ∧ ∃ o o2, c.h[i]? = some o ∧ g[k]? = some o2 ∧ c'.h[i]? = some ⟨joinOwn o.own o2.own, o2.ty, o2.b⟩ := by
      intro k i hk
      obtain ⟨o, o2, ho, ho2, hh'⟩ := p3 k i hk
      have hil : i < c.bs.length := by rw [ok.len]; exact (List.getElem?_eq_some_iff.1 ho).1
      have hkf : k < x.fp.length := (List.getElem?_eq_some_iff.1 hk).1
      have hkl : k < cc'.bs.length := by rw [ok'.len]; omega
      refine ⟨?_, o, o2, ho, ?_, ?_⟩
      · simp only [c']
        rw [List.getElem?_append_left (by rw [hb1, ← ok.len]; exact hil)]
        simp only [bs1, List.getElem?_map, List.getElem?_range hil, Option.map_some, hplace k i hk, List.getElem?_eq_getElem hkl, Option.getD_some]
      · rw [List.getElem?_take] at ho2
        rw [if_pos hkf] at ho2
        exact ho2
      · simp only [c']
        rw [List.getElem?_append_left (by rw [p1, ← ok.len]; exact hil)]
        exact hh'
     have lkOut : ∀ i, i < c.h.length → i ∉ x.fp → c'.bs[i]? = c.bs[i]? ∧ c'.h[i]? = c.h[i]? := by
      intro i hil hi
      have hil' : i < c.bs.length := by rw [ok.len]; exact hil
      constructor
      · simp only [c']
        rw [List.getElem?_append_left (by rw [hb1]; exact hil)]
        have hp : place i x.fp = none := by
         cases hp : place i x.fp with
         | none => rfl
         | some k => exact absurd (List.mem_of_getElem? (place_get hp)) hi
        simp only [bs1, List.getElem?_map, List.getElem?_range hil', Option.map_some, hp, List.getElem?_eq_getElem hil', Option.getD_some]
      · simp only [c']
        rw [List.getElem?_append_left (by rw [p1]; exact hil)]
        exact p2 i hi
     have lkNew : ∀ k, x.fp.length ≤ k → c'.bs[c.h.length + (k - x.fp.length)]? = cc'.bs[k]? ∧ c'.h[c.h.length + (k - x.fp.length)]? = g[k]? := by
      intro k hk
      constructor
      · simp only [c']
        rw [List.getElem?_append_right (by rw [hb1]; omega), hb1, List.getElem?_drop]
        congr 1
        omega
      · simp only [c']
        rw [List.getElem?_append_right (by rw [p1]; omega), p1, List.getElem?_drop]
        congr 1
        omega
     have onum : ∀ k j, opnum c.h.length x.fp r.h.length k = some j → x.fp[k]? = some j ∨ (x.fp.length ≤ k ∧ k < r.h.length ∧ j = c.h.length + (k - x.fp.length)) := by
      intro k j hj
      unfold opnum at hj
      split at hj
      · rename_i i hi; cases hj; exact .inl hi
      · rename_i hi
        split at hj
        · rename_i hb
          cases hj
          exact .inr ⟨by simpa using hi, Nat.le_of_ble_eq_true hb, rfl⟩
        · cases hj
     have at' : ∀ k j, opnum c.h.length x.fp r.h.length k = some j → c'.bs[j]? = cc'.bs[k]? ∧ ∃ own o2, g[k]? = some o2 ∧ c'.h[j]? = some ⟨own, o2.ty, o2.b⟩ := by
      intro k j hj
      rcases onum k j hj with h1 | ⟨h1, h2, rfl⟩
      · obtain ⟨q1, o, o2, _, q2, q3⟩ := lkIn k j h1
        exact ⟨q1, _, o2, q2, q3⟩
      · obtain ⟨q1, q2⟩ := lkNew k h1
        have hlt : k < g.length := by rw [b1]; exact h2
        exact ⟨q1, g[k].own, g[k], List.getElem?_eq_getElem hlt, by rw [q2]; exact List.getElem?_eq_getElem hlt⟩
     have M2 : MapOk cc' c' (opnum c.h.length x.fp r.h.length) := by
      refine ⟨⟨fun b o v h1 h2 => ⟨h1, h2⟩, fun _ _ _ _ _ => rfl⟩, fun _ => rfl, fun k j hj => ?_, fun k j hj own0 ty num s caps h1 => ?_⟩
      rotate_left
      · obtain ⟨q1, own, o2, q2, q3⟩ := at' k j hj
        obtain ⟨o1, e1, _, _, e3⟩ := b2 k o2 q2
        rw [← hrh, h1] at e1
        cases e1
        obtain ⟨cs', e4, _⟩ := renO_lp e3
        exact ⟨own, o2.ty, cs', by rw [q3, e4]⟩
      obtain ⟨q1, own, o2, q2, q3⟩ := at' k j hj
      refine ⟨q1, fun own0 ty cs h1 => ?_, fun own0 ty nl g0 sz rows h1 => ?_⟩
      · obtain ⟨o1, e1, _, _, e3⟩ := b2 k o2 q2
        rw [← hrh, h1] at e1
        cases e1
        obtain ⟨cs', e4, _⟩ := renO_fix e3
        exact ⟨own, o2.ty, cs', by rw [q3, e4]⟩
      · obtain ⟨o1, e1, _, _, e3⟩ := b2 k o2 q2
        rw [← hrh, h1] at e1
        cases e1
        exact ⟨own, o2.ty, by rw [q3, renO_arr e3]⟩
     have hccbs : ∀ (k i b q : Nat), x.fp[k]? = some i → ((c.tell []).sub x.fp x.h).bs[k]? = some (some (b, q)) → c.bs[i]? = some (some (b, q)) := by
      intro k i b q hk hb
      have hkl : k < x.h.length := by rw [hfpl]; exact (List.getElem?_eq_some_iff.1 hk).1
      obtain ⟨i', o, h1, h2, _⟩ := S.obj k _ (List.getElem?_eq_getElem hkl)
      rw [hk] at h1
      cases h1
      rw [sub_bs (c := c.tell []) ok.len hk h2] at hb
      exact hb
     have hWr : ∀ b, Wr ((c.tell []).sub x.fp x.h) b → Wr c b := by
      rintro b ⟨k, q, ty, y, e1, e2⟩
      obtain ⟨i, o, h1, h2, h3, _⟩ := S.obj k _ e1
      obtain ⟨own, oty, ob⟩ := o
      simp only [id] at h3
      subst h3
      exact ⟨i, q, oty, ob, h2, hccbs k i b q h1 e2⟩
     have hWrIn : ∀ (i b q : Nat), i ∉ x.fp → c.bs[i]? = some (some (b, q)) → ¬ Wr ((c.tell []).sub x.fp x.h) b := by
      rintro i b q hi hb ⟨k, q', ty, y, e1, e2⟩
      obtain ⟨i', o, h1, h2, h3, _⟩ := S.obj k _ e1
      have := ok.apart i i' b q q' hb (hccbs k i' b q' h1 e2)
      subst this
      exact hi (List.mem_of_getElem? h1)
     -- an object of the callee's, in the caller's heap
     have relNew : ∀ k j, opnum c.h.length x.fp r.h.length k = some j → ∀ own o2, g[k]? = some o2 → (own = .frozen ↔ o2.own = .frozen) → relO c' j ⟨own, o2.ty, o2.b⟩ := by
      intro k j hj own o2 ho2 hown
      obtain ⟨o1, e1, e2, e2', e3⟩ := b2 k o2 ho2
      rw [← hrh] at e1
      have hO := ok'.obj k o1 e1
      obtain ⟨hbb, _⟩ := at' k j hj
      simp only [id] at e2
      unfold relO at hO ⊢
      cases hob : o1.b with
      | fix cs =>
       rw [hob] at e3
       obtain ⟨cs2, e6, e7⟩ := renO_fix e3
       simp only [hob] at hO
       simp only [e6]
       obtain ⟨l1, l2⟩ := renL_get e7
       obtain ⟨b, hb, hic, hsz, hfz', hf, hf', hc⟩ := hO
       refine ⟨b, by rw [hbb]; exact hb, by rw [e2']; exact hic, by rw [l1]; exact hsz, fun j hj => hfz' j (by rwa [l1] at hj), fun hn => hf fun e => hn (hown.2 (by rw [e2]; exact e)), fun he => hf' (by rw [← e2]; exact hown.1 he), fun j y hy => ?_⟩
       obtain ⟨y1, n1, n2⟩ := l2 j y hy
       obtain ⟨t1, v, t2, t3⟩ := hc j y1 n1
       exact ⟨by rw [celly_ren _ _ n2]; exact t1, v, t2, relA_ren M2 y1 v y t3 n2⟩
      | lp num s caps =>
       rw [hob] at e3
       obtain ⟨cs2, e6, e7⟩ := renO_lp e3
       simp only [hob] at hO
       simp only [e6]
       obtain ⟨b, hb, hlt, hf, vs, hr, hl⟩ := hO
       exact ⟨b, by rw [hbb]; exact hb, hlt, fun hn => hf fun e => hn (hown.2 (by rw [e2]; exact e)), vs, relL_ren M2 _ _ _ hr e7, hl⟩
      | arr nl gg sz rows =>
       rw [hob] at e3
       simp only [hob] at hO
       simp only [renO_arr e3]
       rcases hO with ⟨t1, t2, t3⟩ | ⟨hnn, b, q, hb, hic, hsz, hfz', hf, hf', hc⟩
       · exact .inl ⟨t1, t2, by rw [hbb]; exact t3⟩
       · exact .inr ⟨hnn, b, q, by rw [hbb]; exact hb, by rw [e2']; exact hic, hsz, hfz', fun hn => hf fun e => hn (hown.2 (by rw [e2]; exact e)), fun he => hf' (by rw [← e2]; exact hown.1 he), hc⟩
     have newBs : ∀ (k b q : Nat), x.fp.length ≤ k → cc'.bs[k]? = some (some (b, q)) → c.w.heap.size ≤ b := by
      intro k b q hk hb
      rcases G.place k b q hb with e3 | e3
      · have h1 : k < ((c.tell []).sub x.fp x.h).bs.length := (List.getElem?_eq_some_iff.1 e3).1
        rw [okc.len] at h1
        have h2 : ((c.tell []).sub x.fp x.h).h.length = x.h.length := rfl
        omega
      · exact e3
     have split3 : ∀ i : Nat, (i < c.h.length ∧ ∃ k : Nat, x.fp[k]? = some i) ∨ (i < c.h.length ∧ i ∉ x.fp) ∨ (c.h.length ≤ i ∧ i = c.h.length + ((i - c.h.length + x.fp.length) - x.fp.length)) := by
      intro i
      rcases Nat.lt_or_ge i c.h.length with hi | hi
      · by_cases hm : i ∈ x.fp
        · exact .inl ⟨hi, List.getElem?_of_mem hm⟩
        · exact .inr (.inl ⟨hi, hm⟩)
      · exact .inr (.inr ⟨hi, by omega⟩)
     have plc : ∀ (i b q : Nat), c'.bs[i]? = some (some (b, q)) → c.bs[i]? = some (some (b, q)) ∨ c.w.heap.size ≤ b := by
      intro i b q hi
      rcases split3 i with ⟨_, k, hk⟩ | ⟨hil, hm⟩ | ⟨hge, he⟩
      · rw [(lkIn k i hk).1] at hi
        rcases G.place k b q hi with e3 | e3
        · exact .inl (hccbs k i b q hk e3)
        · exact .inr e3
      · rw [(lkOut i hil hm).1] at hi
        exact .inl hi
      · rw [he, (lkNew _ (by omega)).1] at hi
        exact .inr (newBs _ b q (by omega) hi)
     have G' : Goes c c' := by
      refine ⟨G.os, G.tape, G.output, G.size, fun b hb hn => G.blk b hb fun hw => hn (hWr b hw), fun b hb hw => ?_, fun b hb hf => (G.fb b hb hf).1, fun b hf hn => G.keep b ⟨hf, by simp⟩ fun hw => hn (hWr b hw), plc, fun i o ho => ?_⟩
      · obtain ⟨i, q, ty, y, e1, e2⟩ := hw
        rcases plc i b q e2 with e3 | e3
        · rcases split3 i with ⟨_, k, hk⟩ | ⟨hil, hm⟩ | ⟨hge, he⟩
          · obtain ⟨_, o, o2, ho, _, hh'⟩ := lkIn k i hk
            rw [hh'] at e1
            have hown : joinOwn o.own o2.own = .mine := congrArg Obj.own (Option.some.inj e1)
            have hom : o.own = .mine := by cases h1 : o.own <;> cases h2 : o2.own <;> rw [h1, h2] at hown <;> first | rfl | cases hown
            obtain ⟨own, oty, ob⟩ := o
            simp only at hom
            subst hom
            exact ⟨i, q, oty, ob, ho, e3⟩
          · rw [(lkOut i hil hm).2] at e1
            exact ⟨i, q, ty, y, e1, e3⟩
          · have : i < c.bs.length := (List.getElem?_eq_some_iff.1 e3).1
            rw [ok.len] at this
            omega
        · omega
      · have hil := (List.getElem?_eq_some_iff.1 ho).1
        rcases split3 i with ⟨_, k, hk⟩ | ⟨_, hm⟩ | ⟨hge, _⟩
        · obtain ⟨q1, o', o2, ho', ho2, hh'⟩ := lkIn k i hk
          rw [ho] at ho'
          cases ho'
          have hkl : k < x.h.length := by rw [hfpl]; exact (List.getElem?_eq_some_iff.1 hk).1
          obtain ⟨i', o0, h1, h2, h3, hty0, h4⟩ := S.obj k _ (List.getElem?_eq_getElem hkl)
          rw [hk] at h1
          cases h1
          rw [ho] at h2
          cases h2
          obtain ⟨oc, w1, w2, w3⟩ := G.obj k _ (show ((c.tell []).sub x.fp x.h).h[k]? = some _ from List.getElem?_eq_getElem hkl)
          obtain ⟨o1, e1, e2, e2', e3⟩ := b2 k o2 ho2
          rw [← hrh, w1] at e1
          cases e1
          refine ⟨_, hh', ?_, ?_⟩
          · simp only [id] at e2 h3
            rw [e2]
            rcases w2 with w2 | ⟨w2, w2'⟩
            · rw [w2, h3]; cases o.own <;> simp [joinOwn]
            · rw [w2']; rw [h3] at w2; exact .inr ⟨w2, by rw [w2]; rfl⟩
          · have hsb : ((c.tell []).sub x.fp x.h).bs[k]? = c.bs[i]? := sub_bs (c := c.tell []) (g := x.h) ok.len hk ho
            rw [q1, ← hsb]
            cases hob : o.b with
            | fix cs =>
             rw [hob] at h4
             obtain ⟨cs', e4, e5⟩ := renO_fix h4
             rw [e4] at w3
             cases hoc : oc.b with
             | fix cs1 =>
              rw [hoc] at w3 e3
              obtain ⟨cs2, e6, e7⟩ := renO_fix e3
              rw [e6]
              simp only [OB.goes] at w3 ⊢
              exact ⟨by rw [(renL_get e7).1, w3.1, (renL_get e5).1], w3.2⟩
             | arr => rw [hoc] at w3; simp only [OB.goes] at w3
             | lp => rw [hoc] at w3; simp only [OB.goes] at w3
            | lp num s caps =>
             rw [hob] at h4
             obtain ⟨cs', e4, e5⟩ := renO_lp h4
             rw [e4] at w3
             cases hoc : oc.b with
             | lp num1 s1 cs1 =>
              rw [hoc] at w3 e3
              obtain ⟨cs2, e6, e7⟩ := renO_lp e3
              rw [e6]
              simp only [OB.goes] at w3 ⊢
              exact w3
             | arr => rw [hoc] at w3; simp only [OB.goes] at w3
             | fix => rw [hoc] at w3; simp only [OB.goes] at w3
            | arr nl g0 sz rows =>
             rw [hob] at h4
             rw [renO_arr h4] at w3
             cases hoc : oc.b with
             | fix cs1 => rw [hoc] at w3; simp only [OB.goes] at w3
             | lp => rw [hoc] at w3; simp only [OB.goes] at w3
             | arr => rw [hoc] at w3 e3; rw [renO_arr e3]; exact w3
        · refine ⟨o, by rw [(lkOut i hil hm).2]; exact ho, .inl rfl, ?_⟩
          rw [(lkOut i hil hm).1]
          cases o.b with
          | fix => simp [OB.goes]
          | lp => simp [OB.goes]
          | arr =>
           simp only [OB.goes, Nat.le_refl, true_and, forall_const]
           exact fun b q hb => csize_heap (G.blk b (ok.block_lt hb) (hWrIn i b q hm hb))
        · omega
     have numIn : ∀ k i, x.fp[k]? = some i → opnum c.h.length x.fp r.h.length k = some i := fun k i hk => by simp only [opnum, hk]
     have numNew : ∀ k, x.fp.length ≤ k → k < r.h.length → opnum c.h.length x.fp r.h.length k = some (c.h.length + (k - x.fp.length)) := fun k h1 h2 => by
      have hb : Nat.blt k r.h.length = true := Nat.ble_eq_true_of_le h2
      simp only [opnum, List.getElem?_eq_none h1, hb]
     have okc' : Ok c' := by
      refine ⟨by simp only [c', List.length_append, List.length_drop, hb1, p1, hgl, ok'.len], ?_, fun b hf => ok'.fbs b hf, fun i o ho => ?_⟩
      · have key : ∀ (i b q : Nat), c'.bs[i]? = some (some (b, q)) → (∃ k : Nat, opnum c.h.length x.fp r.h.length k = some i ∧ cc'.bs[k]? = some (some (b, q))) ∨ (i ∉ x.fp ∧ c.bs[i]? = some (some (b, q))) := by
         intro i b q hi
         rcases split3 i with ⟨_, k, hk⟩ | ⟨hil, hm⟩ | ⟨hge, he⟩
         · exact .inl ⟨k, numIn k i hk, by rw [← (lkIn k i hk).1]; exact hi⟩
         · exact .inr ⟨hm, by rw [← (lkOut i hil hm).1]; exact hi⟩
         · have hi' := hi
           rw [he, (lkNew _ (by omega)).1] at hi'
           have hlt := (List.getElem?_eq_some_iff.1 hi').1
           rw [ok'.len, hrh] at hlt
           refine .inl ⟨i - c.h.length + x.fp.length, ?_, hi'⟩
           rw [numNew _ (by omega) hlt, ← he]
        have mixed : ∀ (j k b q q' : Nat), cc'.bs[k]? = some (some (b, q)) → j ∉ x.fp → c.bs[j]? = some (some (b, q')) → False := by
         intro j k b q q' hb hj hb'
         rcases G.place k b q hb with e3 | e3
         · have hkl : k < ((c.tell []).sub x.fp x.h).bs.length := (List.getElem?_eq_some_iff.1 e3).1
           rw [okc.len] at hkl
           have hkl : k < x.fp.length := by rw [← hfpl]; exact hkl
           have := ok.apart x.fp[k] j b q q' (hccbs k _ b q (List.getElem?_eq_getElem hkl) e3) hb'
           exact hj (this ▸ List.getElem_mem hkl)
         · have h1 := ok.block_lt hb'
           have : c.w.heap.size ≤ b := e3
           omega
        intro i j b q q' hi hj
        rcases key i b q hi with ⟨k, hk, hkb⟩ | ⟨hm, hib⟩ <;> rcases key j b q' hj with ⟨l, hl, hlb⟩ | ⟨hm', hjb⟩
        · have := ok'.apart k l b q q' hkb hlb
          subst this
          rw [hk] at hl
          exact Option.some.inj hl
        · exact (mixed j k b q q' hkb hm' hjb).elim
        · exact (mixed i l b q' q hlb hm hib).elim
        · exact ok.apart i j b q q' hib hjb
      · rcases split3 i with ⟨_, k, hk⟩ | ⟨hil, hm⟩ | ⟨hge, he⟩
        · obtain ⟨_, o0, o2, ho0, ho2, hh'⟩ := lkIn k i hk
          rw [hh'] at ho
          cases ho
          refine relNew k i (numIn k i hk) _ o2 ho2 ⟨fun hj => ?_, fun e => by rw [e]; cases o0.own <;> rfl⟩
          cases h1 : o2.own with
          | frozen => rfl
          | _ =>
           exfalso
           rw [h1] at hj
           have h0 : o0.own = .frozen := by cases h2 : o0.own <;> rw [h2] at hj <;> first | rfl | cases hj
           obtain ⟨oc, e1, e2, _, _⟩ := b2 k o2 ho2
           obtain ⟨i', o9, y1, y2, y3, _⟩ := S.obj k _ (List.getElem?_eq_getElem (show k < x.h.length by have := (List.getElem?_eq_some_iff.1 hk).1; omega))
           rw [hk] at y1
           cases y1
           rw [ho0] at y2
           cases y2
           obtain ⟨oc2, z1, z2, _⟩ := G.obj k _ (show ((c.tell []).sub x.fp x.h).h[k]? = some _ from List.getElem?_eq_getElem (show k < x.h.length by have := (List.getElem?_eq_some_iff.1 hk).1; omega))
           rw [← hrh, z1] at e1
           cases e1
           simp only [id] at y3 e2
           rw [h1] at e2
           rcases z2 with z2 | ⟨z2, z2'⟩
           · rw [← e2, y3, h0] at z2; cases z2
           · rw [y3, h0] at z2; cases z2
        · have ho' := ho
          rw [(lkOut i hil hm).2] at ho'
          exact relO_goes G' ok (ok.obj i o ho') (lkOut i hil hm).1 (fun b q hb => G.blk b (ok.block_lt hb) (hWrIn i b q hm hb))
           fun b q hb => ⟨fun hf => (G.fb b (ok.block_lt hb) hf).1, fun hf => G.keep b ⟨hf, by simp⟩ (hWrIn i b q hm hb)⟩
        · have ho' := ho
          rw [he, (lkNew _ (by omega)).2] at ho'
          have hlt := (List.getElem?_eq_some_iff.1 ho').1
          rw [b1] at hlt
          have := relNew _ i (by rw [numNew _ (by omega) hlt, ← he]) o.own o ho' Iff.rfl
          exact this
     refine ⟨c', rfl, rfl, okc', G', CR.rel_map (fun y y' v hy hy' => relA_ren M2 y v y' hy hy') hrel hcr, rfl⟩
   · cases hb
 · cases hb
theorem call_any (ok : Ok c) {m : Mode} {args : List AV} {x : Handed} (hh : hand m c.h args = some x) {vals : List Value} (hargs : relL c args vals) :
 ∃ cc, cc.w = c.w ∧ cc.h = x.h ∧ Ok cc ∧ relL cc x.args vals ∧ Stays c.w c.Fb cc.w cc.Fb ∧
  ∀ cc' r r' e, Ok cc' → Goes cc cc' → cc'.h = r.h → CR.rel cc' r.r e → back m c.h x r = some r' → ∃ c', c'.w = cc'.w ∧ c'.h = r'.h ∧ Ok c' ∧ Goes c c' ∧ CR.rel c' r'.r e ∧ r'.rc = r.rc := by
 by_cases h : m = .opn
 · subst h; exact opn_ctx ok hh hargs
 · exact call_ctx ok h hh hargs
end
end Go.Proofs.YtlhajccbfapieaaGreatDoor.Ab
