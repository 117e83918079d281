/- Regions that are run in any order: any order. -/
import Derived.Test.YtlhajccbfapieaaGreatDoorAbDraw4
import Derived.Test.YtlhajccbfapieaaGreatDoorAbRun3
namespace Go.Proofs.YtlhajccbfapieaaGreatDoor.Ab
open Go
set_option linter.unusedVariables false
set_option linter.unusedSimpArgs false
theorem exec_keep {X : Ext} {i : Ins} {st st1 : St} (h : exec X i st = some st1) {t : Nat} (ht : i.dst ≠ some t) : st1.fr t = st.fr t := by
 rcases exec_cases h with ⟨_, _, a, h', _, rfl⟩ | ⟨_, rfl⟩
 · simp only [put_get']; rw [if_neg ht]
 · simp only [put_get']; rw [if_neg ht]
theorem run_keep {X : Ext} : ∀ {l : List Ins} {st stF : St}, runI X true l st = some (.nor, stF) → ∀ {t : Nat}, (∀ z ∈ l, z.dst ≠ some t) → stF.fr t = st.fr t
 | [], st, stF, h, t, _ => by simp only [runI, Option.some.injEq, Prod.mk.injEq, true_and] at h; rw [h]
 | i :: l, st, stF, h, t, ht => by
  obtain ⟨st1, h1, h2⟩ := (exec_runI X i l st stF).1 h
  rw [run_keep h2 fun z hz => ht z (List.mem_cons_of_mem _ hz), exec_keep h1 (ht i List.mem_cons_self)]
theorem checks_mem {f : Nat → AV} {q : Nat × Nat × Nat × Nat} : ∀ {chk : List (Nat × Nat × Nat × Nat)}, checks f chk = true → chk.any (beq4 q) = true → apart (f q.1) q.2.1 (f q.2.2.1) q.2.2.2 = true
 | [], _, h => by simp at h
 | (t, n, u, m) :: l, hc, h => by
  simp only [checks] at hc
  split at hc
  · rename_i ha
    simp only [List.any_cons, Bool.or_eq_true] at h
    rcases h with h | h
    · simp only [beq4, Bool.and_eq_true] at h
      obtain ⟨⟨⟨h1, h2⟩, h3⟩, h4⟩ := h
      rw [Nat.eq_of_beq_eq_true h1, Nat.eq_of_beq_eq_true h2, Nat.eq_of_beq_eq_true h3, Nat.eq_of_beq_eq_true h4]
      exact ha
    · exact checks_mem hc h
  · cases hc
theorem noDst_mem {t : Nat} {l : List Ins} (h : noDst t l = true) {z : Ins} (hz : z ∈ l) : z.dst ≠ some t := by
 simp only [noDst, List.all_eq_true] at h
 intro e
 exact otherDst_iff (h z hz) rfl e
theorem mem_drop {is : List Ins} {m j : Nat} {z : Ins} (h : is[m]? = some z) (hj : j ≤ m) : z ∈ is.drop j := by
 refine List.mem_of_getElem? (i := m - j) ?_
 rw [List.getElem?_drop, show j + (m - j) = m by omega]
 exact h
def Boom (X : Ext) (i : Ins) (st : St) (v : AV) (h : Heap) : Prop :=
 guarded i st = some true ∧ clearI i.act st.fr st.h (evs st.fr i.xs) = true ∧ isD i.act = true ∧ ∃ p m f args rc, opSem st.h i.act (evs st.fr i.xs) = some (.call p m f args) ∧ callM X.call p m f args st.h .no = some ⟨.pan v, h, rc⟩
theorem run_cons {X : Ext} {i : Ins} {is : List Ins} {st stF : St} {ex : Ex} (h : runI X true (i :: is) st = some (ex, stF)) :
 (∃ st1, exec X i st = some st1 ∧ runI X true is st1 = some (ex, stF)) ∨ ∃ v hp, Boom X i st v hp ∧ ex = .pan v ∧ stF = { st with h := hp } := by
 simp only [runI] at h
 split at h
 · rename_i hg
   split at h
   · rename_i st1 hs
     refine .inl ⟨st1, ?_, h⟩
     unfold stepI at hs
     split at hs
     · cases hs
     rename_i hc
     unfold exec eff
     rw [hg]
     simp only [hc]
     split at hs
     · rename_i ho; cases hs; simp only [ho]
     · cases hs
     · rename_i ho
       split at hs
       · rename_i hcall; cases hs; simp only [ho, hcall]
       · split at hs <;> cases hs
       · cases hs
     · cases hs
     · cases hs
     · cases hs
   · rename_i hne
     right
     cases hs : stepI X true i st with
     | none => rw [hs] at h; cases h
     | some q =>
      rw [hs] at h hne
      cases h
      unfold stepI at hs
      split at hs
      · cases hs
      rename_i hc
      split at hs
      · cases hs; exact (hne _ rfl).elim
      · cases hs
      · rename_i ho
        split at hs
        · cases hs; exact (hne _ rfl).elim
        · rename_i hcall
          split at hs
          · cases hs
          · rename_i hd
            cases hs
            refine ⟨_, _, ⟨hg, hc, ?_, _, _, _, _, _, ho, hcall⟩, rfl, rfl⟩
            cases hi : isD i.act with
            | true => rfl
            | false => exact (hd rfl hi).elim
        · cases hs
      · cases hs
      · cases hs
      · cases hs
 · rename_i hg
   exact .inl ⟨_, exec_skip hg, h⟩
 · cases h
def Boom0 (X : Ext) (i : Ins) (st : St) (v : AV) (h : Heap) : Prop :=
 guarded i st = some true ∧ isD i.act = true ∧ ∃ p m f args rc, opSem st.h i.act (evs st.fr i.xs) = some (.call p m f args) ∧ callM X.call p m f args st.h .no = some ⟨.pan v, h, rc⟩
theorem Boom.b0 {X : Ext} {i : Ins} {st : St} {v : AV} {h : Heap} (b : Boom X i st v h) : Boom0 X i st v h := ⟨b.1, b.2.2⟩
def Um (z z' : Ins) : Prop := (z' = z ∧ isD z.act = false) ∨ z' = unmark z
theorem unmark_eq {z : Ins} (h : isD z.act = false) : unmark z = z := by
 obtain ⟨d, g, a, xs⟩ := z
 cases a <;> first | rfl | cases h
theorem um_exec {X : Ext} {z z' : Ins} (hu : Um z z') {st st1 : St} (h : exec0 X z st = some st1) (l : List Ins) : runI X false (z' :: l) st = runI X false l st1 := by
 have plain : isD z.act = false → runI X false (z :: l) st = runI X false l st1 := by
  intro hi
  rcases exec0_cases h with ⟨hg, a, h', he, rfl⟩ | ⟨hg, rfl⟩
  · unfold eff at he
    simp only [runI, hg, stepI, clear_heap hi]
    split at he
    · rename_i ho; cases he; simp only [ho]
    · rename_i ho
      split at he
      · rename_i hcall; cases he; simp only [ho, hcall]
      · cases he
    · cases he
  · simp only [runI, hg]
 rcases hu with ⟨rfl, hi⟩ | rfl
 · exact plain hi
 · obtain ⟨d, g, act, xs⟩ := z
   cases act with
   | callD ls =>
    rcases exec0_cases h with ⟨hg, a, h', he, rfl⟩ | ⟨hg, rfl⟩
    · obtain ⟨m, f, args, rc, c1, c2⟩ := eff_callD rfl he
      obtain ⟨_, _, _, _, _, _, _, c3⟩ := callD_sem c1
      have hg' : guarded ⟨d, g, .call false, xs⟩ st = some true := hg
      simp only [unmark, runI, hg', stepI, clearI, c3, c2]
    · have hg' : guarded ⟨d, g, .call false, xs⟩ st = some false := hg
      simp only [unmark, runI, hg']
   | _ => exact plain rfl
theorem um_boom {X : Ext} {z z' : Ins} (hu : Um z z') {st : St} {v : AV} {hp : Heap} (h : Boom0 X z st v hp) (l : List Ins) : runI X false (z' :: l) st = some (.pan v, { st with h := hp }) := by
 obtain ⟨hg, hd, p, m, f, args, rc, c1, c2⟩ := h
 rcases hu with ⟨rfl, hi⟩ | rfl
 · rw [hi] at hd; cases hd
 · obtain ⟨d, g, act, xs⟩ := z
   cases act <;> try (cases hd; done)
   obtain ⟨_, _, _, _, _, _, e, c3⟩ := callD_sem c1
   cases e
   have hg' : guarded ⟨d, g, .call false, xs⟩ st = some true := hg
   simp only [unmark, runI, hg', stepI, clearI, c3, c2]
theorem low1_heap {X : Ext} {x : Ins} {vs : List AV} {h h' : Heap} {a : AV} (hl : low1 x = true) (e : eff X x vs h = some (a, h')) : h' = h := by
 have hk := Nat.le_of_ble_eq_true hl
 rcases Nat.lt_or_ge (kindOf x.act) 1 with h0 | h0
 · exact (eff_kind0 (by omega) e).1
 · exact eff_kind1 (by omega) e
theorem exec_low1 {X : Ext} {x : Ins} {st st1 : St} (hl : low1 x = true) (e : exec X x st = some st1) : ∃ a, st1 = { st with fr := put st.fr x.dst a } := by
 rcases exec_cases e with ⟨_, _, a, h', he, rfl⟩ | ⟨_, rfl⟩
 · rw [low1_heap hl he]; exact ⟨a, rfl⟩
 · exact ⟨_, rfl⟩
theorem boom_back {X : Ext} {x y : Ins} (hs : slotsApart x y = true) (hl : low1 x = true) {st st1 : St} (e : exec X x st = some st1) {v : AV} {hp : Heap} (h : Boom0 X y st1 v hp) : Boom0 X y st v hp := by
 simp only [slotsApart, Bool.and_eq_true] at hs
 obtain ⟨a, rfl⟩ := exec_low1 hl e
 obtain ⟨hg, hd, p, m, f, args, rc, c1, c2⟩ := h
 have same : ({ st with fr := put st.fr x.dst a } : St) = { st with fr := put st.fr x.dst a, h := st.h } := rfl
 rw [same, guarded_apart hs.1.1] at hg
 simp only [evs_apart hs.1.1] at c1
 exact ⟨hg, hd, p, m, f, args, rc, c1, c2⟩
theorem looks_keep {X : Ext} {is : List Ins} {chk : List (Nat × Nat × Nat × Nat)} {i : Nat} {y : Ins} (hd : isD y.act = true) : ∀ {pre : List (Nat × Ins)} {st stm : St}, (∀ p ∈ pre, isD p.2.act = false ∧ slotsApart p.2 y = true ∧ memOk is chk p.1 i p.2 y = true ∧ (isD y.act = true → low1 p.2 = true)) →
 runI X true (pre.map (·.2)) st = some (.nor, stm) → stm.h = st.h ∧ evs stm.fr y.xs = evs st.fr y.xs
 | [], st, stm, _, h => by simp only [List.map_nil, runI, Option.some.injEq, Prod.mk.injEq, true_and] at h; rw [h]; exact ⟨rfl, rfl⟩
 | p :: pre, st, stm, hp, h => by
  obtain ⟨s1, h1, h2⟩ := (exec_runI X p.2 _ st stm).1 (by simpa using h)
  obtain ⟨_, hs, _, hl⟩ := hp p List.mem_cons_self
  simp only [slotsApart, Bool.and_eq_true] at hs
  obtain ⟨a, rfl⟩ := exec_low1 (hl hd) h1
  obtain ⟨e1, e2⟩ := looks_keep hd (fun q hq => hp q (List.mem_cons_of_mem _ hq)) h2
  exact ⟨e1, by rw [e2]; exact evs_apart hs.1.1⟩
theorem run_nor_keep {X : Ext} {l : List Ins} {st stF : St} {ex : Ex} (h : runI X true l st = some (ex, stF)) {t : Nat} (ht : ∀ z ∈ l, z.dst ≠ some t) : stF.fr t = st.fr t := by
 induction l generalizing st with
 | nil => simp only [runI, Option.some.injEq, Prod.mk.injEq] at h; rw [h.2]
 | cons i l ih =>
  rcases run_cons h with ⟨st1, h1, h2⟩ | ⟨v, hp, _, _, rfl⟩
  · rw [ih h2 fun z hz => ht z (List.mem_cons_of_mem _ hz), exec_keep h1 (ht i List.mem_cons_self)]
  · rfl
theorem run_pan_D {X : Ext} {l : List Ins} {st stF : St} {v : AV} (h : runI X true l st = some (.pan v, stF)) : ∃ z ∈ l, isD z.act = true := by
 induction l generalizing st with
 | nil => simp [runI] at h
 | cons i l ih =>
  rcases run_cons h with ⟨st1, h1, h2⟩ | ⟨v, hp, hb, _, _⟩
  · obtain ⟨z, hz, hd⟩ := ih h2; exact ⟨z, List.mem_cons_of_mem _ hz, hd⟩
  · exact ⟨i, List.mem_cons_self, hb.2.2.1⟩
def PairSw (is : List Ins) (chk : List (Nat × Nat × Nat × Nat)) (j i : Nat) (x y : Ins) : Prop := isD x.act = false ∧ slotsApart x y = true ∧ memOk is chk j i x y = true ∧ (isD y.act = true → low1 x = true)
theorem front {X : Ext} {is : List Ins} {chk : List (Nat × Nat × Nat × Nat)} {ex : Ex} {stF : St} {i : Nat} {y : Ins} (hchk : (ex = .nor ∧ checks stF.fr chk = true) ∨ ∀ x, loadStore x y = none) {post : List (Nat × Ins)} :
 ∀ {pre : List (Nat × Ins)} {st : St}, runI X true ((pre ++ (i, y) :: post).map (·.2)) st = some (ex, stF) → (∀ p ∈ pre, PairSw is chk p.1 i p.2 y) →
  (∀ p ∈ pre ++ (i, y) :: post, is[p.1]? = some p.2) → (pre ++ (i, y) :: post).Pairwise (fun p q => p.1 < q.1) →
  (∃ st1, exec0 X y st = some st1 ∧ runI X true ((pre ++ post).map (·.2)) st1 = some (ex, stF) ∧ (isD y.act = true → guarded y st = some true → ∃ sty, runI X true (pre.map (·.2)) st = some (.nor, sty) ∧ clearI y.act sty.fr sty.h (evs sty.fr y.xs) = true)) ∨
   (∃ v hp, ex = .pan v ∧ stF.h = hp ∧ stF.ds = st.ds ∧ stF.rc = st.rc ∧ stF.n0 = st.n0 ∧ isD y.act = true ∧ ∃ stm, runI X true (pre.map (·.2)) st = some (.nor, stm) ∧ Boom X y stm v hp ∧ stF = { stm with h := hp })
 | [], st, hr, _, _, _ => by
  simp only [List.nil_append, List.map_cons] at hr
  rcases run_cons hr with ⟨s1, h1, h2⟩ | ⟨v, hp, hb, rfl, rfl⟩
  · refine .inl ⟨s1, exec0_of h1, by simpa using h2, fun _ hg => ⟨st, rfl, ?_⟩⟩
    rcases exec_cases h1 with ⟨_, hc, _⟩ | ⟨hg', _⟩
    · exact hc
    · rw [hg] at hg'; cases hg'
  · exact .inr ⟨v, hp, rfl, rfl, rfl, rfl, rfl, hb.2.2.1, st, rfl, hb, rfl⟩
 | (j, x) :: pre, st, hr, hp, hin, hs => by
  have hr0 := hr
  simp only [List.cons_append, List.map_cons] at hr
  obtain ⟨hxd, hsl, hmem, hlow⟩ := hp (j, x) List.mem_cons_self
  rcases run_cons hr with ⟨s1, h1, h2⟩ | ⟨v, hpp, hb, _, _⟩
  rotate_left
  · exfalso; have := hb.2.2.1; simp only at hxd; rw [hxd] at this; cases this
  simp only [List.cons_append, List.pairwise_cons] at hs
  have hst : s1.ds = st.ds ∧ s1.rc = st.rc ∧ s1.n0 = st.n0 := by
   rcases exec_cases h1 with ⟨_, _, a, h', _, rfl⟩ | ⟨_, rfl⟩ <;> exact ⟨rfl, rfl, rfl⟩
  rcases front hchk (pre := pre) h2 (fun p hp' => hp p (List.mem_cons_of_mem _ hp')) (fun p hp' => hin p (List.mem_cons_of_mem _ hp')) hs.2 with ⟨s2, h3, h4, hcl⟩ | ⟨v, hpp, e1, e2, e3, e4, e5, e6, stm, e7, e8, e9⟩
  rotate_left
  · refine .inr ⟨v, hpp, e1, e2, e3.trans hst.1, e4.trans hst.2.1, e5.trans hst.2.2, e6, stm, ?_, e8, e9⟩
    simp only [List.map_cons]
    exact (exec_runI X x _ st stm).2 ⟨s1, h1, e7⟩
  left
  have hpost : ∀ p ∈ (i, y) :: post, i ≤ p.1 := by
   intro p hp'
   rcases List.mem_cons.1 hp' with rfl | hp'
   · exact Nat.le_refl _
   · have := (List.pairwise_append.1 hs.2).2.1
     exact Nat.le_of_lt ((List.pairwise_cons.1 this).1 p hp')
  have hgd : guarded y s1 = guarded y st := by
   have hs' := hsl
   simp only [slotsApart, Bool.and_eq_true] at hs'
   rcases exec_cases h1 with ⟨_, _, a, h', _, rfl⟩ | ⟨_, rfl⟩
   · exact guarded_apart hs'.1.1
   · exact guarded_apart (h' := st.h) hs'.1.1
  have hcl' : isD y.act = true → guarded y st = some true → ∃ sty, runI X true (((j, x) :: pre).map (·.2)) st = some (.nor, sty) ∧ clearI y.act sty.fr sty.h (evs sty.fr y.xs) = true := by
   intro hd hg
   obtain ⟨sty, c1, c2⟩ := hcl hd (by rw [hgd]; exact hg)
   exact ⟨sty, by simp only [List.map_cons]; exact (exec_runI X x _ st sty).2 ⟨s1, h1, c1⟩, c2⟩
  have hswap : guarded y st = some true → EffSwap X x y (evs st.fr x.xs) (evs st.fr y.xs) st.h := by
   intro hgy
   refine effSwap_of hmem (fun q hq hany hn1 hn2 p r0 v rest hv hu => ?_) (fun t hl hnd p r0 hv m f args ho => ?_)
   · rcases hchk with ⟨rfl, hchk⟩ | hno
     rotate_left
     · rw [hno x] at hq; cases hq
     have hc := checks_mem hchk hany
     have hx : ∃ ta r, x.xs = .t ta :: r ∧ q.1 = ta := by
      unfold loadStore at hq
      split at hq
      · rename_i hxx _ _; cases hq; exact ⟨_, _, hxx, rfl⟩
      · rename_i hxx _ _; cases hq; exact ⟨_, _, hxx, rfl⟩
      · rename_i hxx _ _; cases hq; exact ⟨_, _, hxx, rfl⟩
      · rename_i hxx _ _; cases hq; exact ⟨_, _, hxx, rfl⟩
      · cases hq
     have hy : ∃ tu r, y.xs = .t tu :: r ∧ q.2.2.1 = tu := by
      unfold loadStore at hq
      split at hq
      · rename_i hyx; cases hq; exact ⟨_, _, hyx, rfl⟩
      · rename_i hyx; cases hq; exact ⟨_, _, hyx, rfl⟩
      · rename_i hyx; cases hq; exact ⟨_, _, hyx, rfl⟩
      · rename_i hyx; cases hq; exact ⟨_, _, hyx, rfl⟩
      · cases hq
     obtain ⟨ta, rx, hxx, hta⟩ := hx
     obtain ⟨tu, r, hyx, htu⟩ := hy
     rw [hxx] at hv
     rw [hyx] at hu
     simp only [evs, ev, List.cons.injEq] at hv hu
     have k1 : stF.fr ta = st.fr ta := by
      refine run_keep hr fun z hz => ?_
      rw [← hta]
      rcases List.mem_cons.1 hz with rfl | hz
      · exact noDst_mem hn1 (mem_drop (hin (j, z) List.mem_cons_self) (Nat.le_refl _))
      · obtain ⟨p, hp', rfl⟩ := List.mem_map.1 hz
        exact noDst_mem hn1 (mem_drop (hin p (List.mem_cons_of_mem _ hp')) (Nat.le_of_lt (hs.1 p hp')))
     have huy : tu ∈ uses y := uses_xs (by rw [hyx]; exact List.mem_cons_self)
     have k2 : stF.fr tu = st.fr tu := by
      refine run_keep hr fun z hz => ?_
      have hap : ∀ w, slotsApart w y = true → w.dst ≠ some tu := fun w hw => by
       simp only [slotsApart, Bool.and_eq_true] at hw
       exact notDst_iff hw.1.1 huy
      rcases List.mem_cons.1 hz with rfl | hz
      · exact hap _ hsl
      · obtain ⟨p, hp', rfl⟩ := List.mem_map.1 hz
        rcases List.mem_append.1 hp' with hp' | hp'
        · exact hap _ (hp p (List.mem_cons_of_mem _ hp')).2.1
        · rw [← htu]
          exact noDst_mem hn2 (mem_drop (hin p (List.mem_cons_of_mem _ (List.mem_append_right _ hp'))) (hpost p hp'))
     rw [hta, htu, k1, k2] at hc
     rw [← hv.1, ← hu.1]
     exact hc
   · obtain ⟨ls, hact, rx, hxx, hmb⟩ : ∃ ls, y.act = .callD ls ∧ ∃ rx, x.xs = .t t :: rx ∧ memb t ls = true := by
      unfold lookD at hl
      split at hl
      · rename_i hxx hact
        split at hl
        · rename_i hb; cases hl; exact ⟨_, hact, _, hxx, hb⟩
        · cases hl
      · rename_i hxx hact
        split at hl
        · rename_i hb; cases hl; exact ⟨_, hact, _, hxx, hb⟩
        · cases hl
      · cases hl
     rw [hxx] at hv
     simp only [evs, ev, List.cons.injEq] at hv
     have hyd : isD y.act = true := by rw [hact]; rfl
     obtain ⟨sty, c1, hcl⟩ := hcl' hyd hgy
     obtain ⟨k1, k2⟩ := looks_keep hyd hp c1
     have k3 : sty.fr t = st.fr t := by
      refine run_keep c1 fun z hz => ?_
      obtain ⟨p, hp', rfl⟩ := List.mem_map.1 hz
      refine noDst_mem hnd (mem_drop (hin p (List.mem_append_left _ hp')) ?_)
      rcases List.mem_cons.1 hp' with rfl | hp'
      · exact Nat.le_refl _
      · exact Nat.le_of_lt (hs.1 p (List.mem_append_left _ hp'))
     rw [k1, k2] at hcl
     rw [hact] at ho hcl
     obtain ⟨m', f', first, cap, args', hvs, e, _⟩ := callD_sem ho
     cases e
     simp only [clearI] at hcl
     unfold clearL at hcl
     split at hcl
     · cases hmb
     · rw [hvs] at hcl
       simp only at hcl
       split at hcl
       · rename_i fp hfp
         refine ⟨fp, hfp, ?_⟩
         rw [← hv.1, ← k3]
         have key : ∀ l : List Nat, offs sty.fr fp l = true → memb t l = true → offA fp (sty.fr t) = true := by
          intro l
          induction l with
          | nil => intro _ h; cases h
          | cons u l ih =>
           intro h1 h2
           simp only [offs] at h1
           split at h1
           · rename_i hu
             simp only [memb] at h2
             split at h2
             · rename_i hb; rw [Nat.eq_of_beq_eq_true hb]; exact hu
             · exact ih h1 h2
           · cases h1
         exact key _ hcl hmb
       · cases hcl
  obtain ⟨s1', h5, h6⟩ := swap hsl hxd (fun _ => hswap) h1 h3
  refine ⟨s1', h5, ?_, hcl'⟩
  simp only [List.cons_append, List.map_cons]
  simp only [runI]
  rcases exec_cases h6 with ⟨hg, hc, a, h', he, rfl⟩ | ⟨hg, rfl⟩
  · have hstep : stepI X true x s1' = some (.nor, { s1' with fr := put s1'.fr x.dst a, h := h' }) := by
     unfold eff at he
     simp only [stepI, hc]
     split at he
     · rename_i ho; cases he; simp only [ho]
     · rename_i ho
       split at he
       · rename_i hcall; cases he; simp only [ho, hcall]
       · cases he
     · cases he
    rw [hg, hstep]; exact h4
  · rw [hg]; exact h4
theorem pairsOk_get {aft : List (List Nat)} {is : List Ins} {chk : List (Nat × Nat × Nat × Nat)} {i : Nat} {y : Ins} : ∀ {l : List Ins} {j0 : Nat}, pairsOk aft is chk i y j0 l = true → ∀ (m : Nat) x, l[m]? = some x → j0 + m < i → pairOk aft is chk (j0 + m) i x y = true
 | [], _, _, m, x, hx, _ => by simp at hx
 | z :: l, j0, h, m, x, hx, hlt => by
  simp only [pairsOk] at h
  split at h
  · simp only [Bool.and_eq_true] at h
    cases m with
    | zero => simp at hx; subst hx; exact h.1
    | succ m =>
     have := pairsOk_get h.2 m x (by simpa using hx) (by omega)
     rwa [show j0 + 1 + m = j0 + (m + 1) by omega] at this
  · rename_i hb
    have : ¬ j0 < i := fun hlt => by
     have : Nat.blt j0 i = true := Nat.ble_eq_true_of_le hlt
     rw [this] at hb; cases hb
    omega
theorem drawOk_get {aft : List (List Nat)} {is : List Ins} {chk : List (Nat × Nat × Nat × Nat)} : ∀ {l : List Ins} {i0 : Nat}, drawOk aft is chk i0 l = true → ∀ (m : Nat) y, l[m]? = some y → pairsOk aft is chk (i0 + m) y 0 is = true
 | [], _, _, m, y, hy => by simp at hy
 | z :: l, i0, h, m, y, hy => by
  simp only [drawOk, Bool.and_eq_true] at h
  cases m with
  | zero => simp at hy; subst hy; exact h.1
  | succ m =>
   have := drawOk_get h.2 m y (by simpa using hy)
   rwa [show i0 + 1 + m = i0 + (m + 1) by omega] at this
section
variable {ops : Array Oper} {listed : Array Bool}
def Closed (ops : Array Oper) (listed : Array Bool) : Prop := ∀ (m : Nat) o, ops[m]? = some o → listed.getD m false = true → ∀ k ∈ afters o, listed.getD k false = true
structure Drawn (P : Program) (cfg : Cfg) (n : Nat) (ops : Array Oper) (perm : List Nat) (aft : List (List Nat)) (is : List Ins) : Prop where
 get : ∀ (k : Nat) (z : Ins), is[k]? = some z → ∃ (i : Nat) (o : Oper) (z' : Ins), perm[k]? = some i ∧ ops[i]? = some o ∧ compIns P cfg n ops true o = some z' ∧ Um z z'
 all : ∀ i : Nat, i < ops.size → ∃ (k : Nat) (z : Ins), perm[k]? = some i ∧ is[k]? = some z
 inj : ∀ (k k' i : Nat), perm[k]? = some i → perm[k']? = some i → k = k'
 aft : ∀ (k : Nat) (l : List Nat) (j : Nat), aft[k]? = some l → j ∈ l → ∃ (i m : Nat) (o : Oper), perm[k]? = some i ∧ perm[j]? = some m ∧ ops[i]? = some o ∧ m ∈ afters o
 back : ∀ (k i : Nat) (o : Oper) (m : Nat), perm[k]? = some i → ops[i]? = some o → m ∈ afters o → ∃ j : Nat, j < k ∧ perm[j]? = some m
section
variable {P : Program} {cfg : Cfg} {n : Nat} {X : Ext} {is : List Ins} {perm : List Nat} {aft : List (List Nat)} {chk : List (Nat × Nat × Nat × Nat)}
theorem ordered_listed (D : Drawn P cfg n ops perm aft is) (hcl : Closed ops listed) : ∀ (f j k i : Nat) (o : Oper), perm[k]? = some i → ops[i]? = some o → (∀ m ∈ afters o, listed.getD m false = true) → ordered aft f j k = true → ∃ m, perm[j]? = some m ∧ listed.getD m false = true
 | 0, _, _, _, _, _, _, _, h => by simp [ordered] at h
 | f + 1, j, k, i, o, hk, ho, hl, h => by
  simp only [ordered] at h
  split at h
  · rename_i l hal
    simp only [Bool.or_eq_true] at h
    rcases h with h | h
    · obtain ⟨i', m, o', e1, e2, e3, e4⟩ := D.aft k l j hal (memb_iff.1 h)
      rw [hk] at e1; cases e1
      rw [ho] at e3; cases e3
      exact ⟨m, e2, hl m e4⟩
    · rw [List.any_eq_true] at h
      obtain ⟨k', hk', h⟩ := h
      obtain ⟨i', m, o', e1, e2, e3, e4⟩ := D.aft k l k' hal hk'
      rw [hk] at e1; cases e1
      rw [ho] at e3; cases e3
      have hml := hl m e4
      cases hom : ops[m]? with
      | none =>
       cases f with
       | zero => simp [ordered] at h
       | succ f =>
        simp only [ordered] at h
        split at h
        · rename_i l' hal'
          simp only [Bool.or_eq_true] at h
          have : ∃ j', j' ∈ l' := by
           rcases h with h | h
           · exact ⟨_, memb_iff.1 h⟩
           · rw [List.any_eq_true] at h; obtain ⟨j', hj', _⟩ := h; exact ⟨j', hj'⟩
          obtain ⟨j', hj'⟩ := this
          obtain ⟨i2, _, o2, f1, _, f3, _⟩ := D.aft k' l' j' hal' hj'
          rw [e2] at f1; cases f1
          rw [hom] at f3; cases f3
        · cases h
      | some om => exact ordered_listed D hcl f j k' m om e2 hom (hcl m om hom hml) h
  · cases h
theorem compInss_get {draw : Bool} : ∀ {l : List Oper} {is : List Ins}, compInss P cfg n ops draw l = some is → is.length = l.length ∧ ∀ (m : Nat) z, is[m]? = some z → ∃ o, l[m]? = some o ∧ compIns P cfg n ops draw o = some z
 | [], is, h => by simp only [compInss, Option.some.injEq] at h; subst h; simp
 | o :: l, is, h => by
  simp only [compInss] at h
  split at h
  · rename_i i is' h1 h2
    cases h
    obtain ⟨e1, e2⟩ := compInss_get h2
    refine ⟨by simp [e1], fun m z hz => ?_⟩
    cases m with
    | zero => simp at hz; subst hz; exact ⟨o, rfl, h1⟩
    | succ m => simpa using e2 m z (by simpa using hz)
  · cases h
theorem afters_iff {o : Oper} {k : Nat} : k ∈ afters o ↔ ∃ e ∈ o.after, Region.binds .any e = true ∧ e.on = k := by
 unfold afters
 simp only [List.mem_map, List.mem_filter, Array.mem_toList_iff]
 constructor
 · rintro ⟨e, ⟨h1, h2⟩, h3⟩; exact ⟨e, h1, h2, h3⟩
 · rintro ⟨e, h1, h2, h3⟩; exact ⟨e, ⟨h1, h2⟩, h3⟩
structure Inv (ops : Array Oper) (perm : List Nat) (is : List Ins) (listed : Array Bool) (L : List (Nat × Ins)) : Prop where
 size : listed.size = ops.size
 closed : Closed ops listed
 mem : ∀ (k i : Nat), perm[k]? = some i → i < ops.size → (k ∈ L.map (·.1) ↔ listed.getD i false = false)
 ins : ∀ p ∈ L, is[p.1]? = some p.2
 pw : L.Pairwise (fun p q => p.1 < q.1)
theorem ready_iff {i : Nat} : i ∈ Region.ready .any ops listed ↔ listed.getD i true = false ∧ ∃ o, ops[i]? = some o ∧ ∀ k ∈ afters o, listed.getD k false = true := by
 rw [mem_ready]
 constructor
 · rintro ⟨h1, o, h2, h3⟩
   refine ⟨h1, o, h2, fun k hk => ?_⟩
   obtain ⟨e, e1, e2, rfl⟩ := afters_iff.1 hk
   exact h3 e e1 e2
 · rintro ⟨h1, o, h2, h3⟩
   exact ⟨h1, o, h2, fun e e1 e2 => h3 e.on (afters_iff.2 ⟨e, e1, e2, rfl⟩)⟩
theorem getD_bool {l : Array Bool} {i : Nat} (h : i < l.size) (a b : Bool) : l.getD i a = l.getD i b := by
 rw [Array.getD_eq_getD_getElem?, Array.getD_eq_getD_getElem?, Array.getElem?_eq_getElem h]; rfl
theorem go_succ (fuel t : Nat) : Region.linearise.go .any ops (fuel + 1) t listed [] = match (Region.ready .any ops listed)[t % (Region.ready .any ops listed).length]? with
 | some i => Region.linearise.go .any ops fuel (t / (Region.ready .any ops listed).length) (listed.setIfInBounds i true) [i]
 | none => [] := rfl
theorem pick (D : Drawn P cfg n ops perm aft is) (hd : drawOk aft is chk 0 is = true) {L : List (Nat × Ins)} (I : Inv ops perm is listed L) (fuel t : Nat) :
 (L = [] ∧ Region.linearise.go .any ops (fuel + 1) t listed [] = []) ∨
 ∃ i t' pre k y y' post o, L = pre ++ (k, y) :: post ∧ Region.linearise.go .any ops (fuel + 1) t listed [] = i :: Region.linearise.go .any ops fuel t' (listed.setIfInBounds i true) [] ∧
  ops[i]? = some o ∧ compIns P cfg n ops true o = some y' ∧ Um y y' ∧ Inv ops perm is (listed.setIfInBounds i true) (pre ++ post) ∧ (∀ p ∈ pre, PairSw is chk p.1 k p.2 y) ∧
  ((∃ q ∈ post, isD q.2.act = true) → ∀ x, loadStore x y = none) := by
 rw [go_succ]
 have hL0 : ∀ {p : Nat × Ins}, p ∈ L → ∃ i o, perm[p.1]? = some i ∧ ops[i]? = some o ∧ listed.getD i false = false := by
  intro p hp
  obtain ⟨i, o, z', e1, e2, e3, e4⟩ := D.get p.1 p.2 (I.ins p hp)
  exact ⟨i, o, e1, e2, (I.mem p.1 i e1 (Array.getElem?_eq_some_iff.1 e2).1).1 (List.mem_map.2 ⟨p, hp, rfl⟩)⟩
 cases hi : (Region.ready .any ops listed)[t % (Region.ready .any ops listed).length]? with
 | none =>
  left
  have hnil : Region.ready .any ops listed = [] := by
   cases hr : Region.ready .any ops listed with
   | nil => rfl
   | cons x xs =>
    rw [hr] at hi
    have hlt : t % (x :: xs).length < (x :: xs).length := Nat.mod_lt _ (by simp)
    simp at hi
    simp at hlt
    omega
  refine ⟨?_, rfl⟩
  cases L with
  | nil => rfl
  | cons p L =>
   exfalso
   obtain ⟨i, o, e1, e2, e3⟩ := hL0 (List.mem_cons_self (a := p) (l := L))
   have hlt := (Array.getElem?_eq_some_iff.1 e2).1
   have : i ∈ Region.ready .any ops listed := by
    rw [ready_iff]
    refine ⟨by rw [getD_bool (by rw [I.size]; exact hlt) true false]; exact e3, o, e2, fun m hm => ?_⟩
    cases hml : listed.getD m false with
    | true => rfl
    | false =>
     obtain ⟨j, hj, hjm⟩ := D.back p.1 i o m e1 e2 hm
     cases hom : ops[m]? with
     | none =>
      -- not an operation: it can't be listed, nor asked for
      exfalso
      obtain ⟨q, hq⟩ : ∃ z, is[j]? = some z := by
       have hp := I.ins p List.mem_cons_self
       have := (List.getElem?_eq_some_iff.1 hp).1
       exact ⟨is[j]'(by omega), List.getElem?_eq_getElem _⟩
      obtain ⟨i', o', z', f1, f2, _⟩ := D.get j q hq
      rw [hjm] at f1; cases f1
      rw [hom] at f2; cases f2
     | some om =>
      have hmem := (I.mem j m hjm (Array.getElem?_eq_some_iff.1 hom).1).2 hml
      simp only [List.map_cons, List.mem_cons] at hmem
      rcases hmem with rfl | hmem
      · omega
      · obtain ⟨q, hq, rfl⟩ := List.mem_map.1 hmem
        have := (List.pairwise_cons.1 I.pw).1 q hq
        omega
   rw [hnil] at this
   cases this
 | some i =>
  right
  simp only
  rw [linearise_go_acc, List.reverse_singleton, List.singleton_append]
  obtain ⟨hi0, o, ho, hpre⟩ := ready_iff.1 (List.mem_of_getElem? hi)
  have hilt : i < ops.size := (Array.getElem?_eq_some_iff.1 ho).1
  have hi1 : listed.getD i false = false := by rw [getD_bool (by rw [I.size]; exact hilt) false true]; exact hi0
  obtain ⟨k, z, hk, hz⟩ := D.all i hilt
  obtain ⟨p, hp, hpk⟩ := List.mem_map.1 ((I.mem k i hk hilt).2 hi1)
  obtain ⟨k', y⟩ := p
  simp only at hpk
  subst hpk
  obtain ⟨pre, post, rfl⟩ := List.append_of_mem hp
  have hsplit := List.pairwise_append.1 I.pw
  obtain ⟨i', o', y', g1, g2, g3, g4⟩ := D.get k' y (I.ins (k', y) hp)
  rw [hk] at g1; cases g1
  rw [ho] at g2; cases g2
  have hset : ∀ m, (listed.setIfInBounds i true).getD m false = if m = i then true else listed.getD m false := by
   intro m
   rw [Array.getD_eq_getD_getElem?, Array.getD_eq_getD_getElem?]
   by_cases hm : m = i
   · subst hm
     rw [Array.getElem?_setIfInBounds_self_of_lt (by rw [I.size]; exact hilt)]
     simp
   · rw [Array.getElem?_setIfInBounds_ne (Ne.symm hm), if_neg hm]
  have hno : ∀ q ∈ pre, isOrd aft q.1 k' = true → False := by
   intro q hq h
   obtain ⟨m, hm, hml⟩ := ordered_listed D I.closed 4 q.1 k' i o hk ho hpre h
   obtain ⟨i2, o2, e1, e2, e3⟩ := hL0 (List.mem_append_left _ hq)
   rw [hm] at e1; cases e1
   rw [hml] at e3; cases e3
  refine ⟨i, _, pre, k', y, y', post, o, rfl, rfl, ho, g3, g4, ⟨by simpa using I.size, ?_, ?_, ?_, ?_⟩, ?_, ?_⟩
  · intro m o2 ho2 hm q hq
    rw [hset]
    by_cases hqi : q = i
    · simp [hqi]
    · rw [if_neg hqi]
      rw [hset] at hm
      by_cases hmi : m = i
      · subst hmi
        rw [ho] at ho2
        cases ho2
        exact hpre q hq
      · rw [if_neg hmi] at hm
        exact I.closed m o2 ho2 hm q hq
  · intro j m hj hmlt
    rw [hset]
    have hLm := I.mem j m hj hmlt
    simp only [List.map_append, List.map_cons, List.mem_append, List.mem_cons] at hLm ⊢
    by_cases hmi : m = i
    · subst hmi
      have : j = k' := D.inj j k' m hj hk
      subst this
      simp only [if_true, Bool.true_eq_false, iff_false]
      rintro (h | h)
      · obtain ⟨q, hq, e⟩ := List.mem_map.1 h
        have := hsplit.2.2 q hq (j, y) List.mem_cons_self
        simp only at this
        omega
      · obtain ⟨q, hq, e⟩ := List.mem_map.1 h
        have := (List.pairwise_cons.1 hsplit.2.1).1 q hq
        simp only at this
        omega
    · rw [if_neg hmi, ← hLm]
      constructor
      · rintro (h | h)
        · exact .inl h
        · exact .inr (.inr h)
      · rintro (h | h | h)
        · exact .inl h
        · subst h; rw [hk] at hj; cases hj; exact (hmi rfl).elim
        · exact .inr h
  · intro q hq
    exact I.ins q (by
     rcases List.mem_append.1 hq with h | h
     · exact List.mem_append_left _ h
     · exact List.mem_append_right _ (List.mem_cons_of_mem _ h))
  · exact I.pw.sublist (List.Sublist.append (List.Sublist.refl _) (List.sublist_cons_self _ _))
  · intro q hq
    have hqlt : q.1 < k' := hsplit.2.2 q hq (k', y) List.mem_cons_self
    have hp1 := drawOk_get hd k' y (I.ins (k', y) hp)
    rw [Nat.zero_add] at hp1
    have hp2 := pairsOk_get hp1 q.1 q.2 (I.ins q (List.mem_append_left _ hq)) (by omega)
    rw [Nat.zero_add] at hp2
    unfold pairOk at hp2
    split at hp2
    · rename_i hx hy
      simp only [Bool.or_eq_true, Bool.and_eq_true] at hp2
      rcases hp2 with hp2 | hp2
      · exact ⟨hx, hp2.1, hp2.2, fun h => by rw [hy] at h; cases h⟩
      · exact (hno q hq hp2).elim
    · rename_i hx hy
      simp only [Bool.or_eq_true, Bool.and_eq_true] at hp2
      rcases hp2 with hp2 | hp2
      · exact ⟨hx, hp2.1, hp2.2.1, fun _ => hp2.2.2⟩
      · exact (hno q hq hp2.1).elim
    · exact (hno q hq hp2).elim
  · rintro ⟨q, hq, hqd⟩ x
    have hqlt : k' < q.1 := (List.pairwise_cons.1 hsplit.2.1).1 q hq
    have hp1 := drawOk_get hd q.1 q.2 (I.ins q (List.mem_append_right _ (List.mem_cons_of_mem _ hq)))
    rw [Nat.zero_add] at hp1
    have hp2 := pairsOk_get hp1 k' y (I.ins (k', y) hp) (by omega)
    rw [Nat.zero_add] at hp2
    unfold pairOk at hp2
    have hlow : low2 y = true → loadStore x y = none := by
     intro h
     have h := Nat.le_of_ble_eq_true h
     unfold loadStore
     split
     · rename_i hy _; rw [hy] at h; simp [kindOf] at h
     · rename_i hy _; rw [hy] at h; simp [kindOf] at h
     · rename_i hy _; rw [hy] at h; simp [kindOf] at h
     · rename_i hy _; rw [hy] at h; simp [kindOf] at h
     · rfl
    have h12 : low1 y = true → low2 y = true := by
     intro h
     have := Nat.le_of_ble_eq_true h
     exact Nat.ble_eq_true_of_le (by omega)
    split at hp2
    · rename_i h; rw [hqd] at h; cases h
    · simp only [Bool.or_eq_true, Bool.and_eq_true] at hp2
      rcases hp2 with hp2 | hp2
      · exact hlow (h12 hp2.2.2)
      · exact hlow hp2.2
    · rename_i hyd
      unfold loadStore
      split
      · rename_i hy _; rw [hy] at hyd; cases hyd
      · rename_i hy _; rw [hy] at hyd; cases hyd
      · rename_i hy _; rw [hy] at hyd; cases hyd
      · rename_i hy _; rw [hy] at hyd; cases hyd
      · rfl
theorem any_match (D : Drawn P cfg n ops perm aft is) (hd : drawOk aft is chk 0 is = true) : ∀ (fuel t : Nat) (listed : Array Bool) (L : List (Nat × Ins)), Inv ops perm is listed L → ∃ is', Match P cfg n ops true (Region.linearise.go .any ops fuel t listed []) is'
 | 0, t, listed, L, I => ⟨[], by simp [Region.linearise.go]; exact .nil⟩
 | fuel + 1, t, listed, L, I => by
  rcases pick D hd I fuel t with ⟨_, e⟩ | ⟨i, t', pre, k, y, y', post, o, _, e, ho, hc, _, I', _⟩
  · exact ⟨[], by rw [e]; exact .nil⟩
  · obtain ⟨is', h⟩ := any_match D hd fuel t' _ _ I'
    exact ⟨y' :: is', by rw [e]; exact .cons ho hc h⟩
theorem any_order (D : Drawn P cfg n ops perm aft is) (hd : drawOk aft is chk 0 is = true) {stF : St} (hchk : checks stF.fr chk = true) :
 ∀ (fuel t : Nat) (listed : Array Bool) (L : List (Nat × Ins)) (st : St), Inv ops perm is listed L → L.length ≤ fuel → runI X true (L.map (·.2)) st = some (.nor, stF) →
  ∃ is', Match P cfg n ops true (Region.linearise.go .any ops fuel t listed []) is' ∧ runI X false is' st = some (.nor, stF)
 | 0, t, listed, L, st, I, hf, hr => by
  have : L = [] := List.eq_nil_of_length_eq_zero (by omega)
  subst this
  exact ⟨[], by simp [Region.linearise.go]; exact .nil, by simpa [runI] using hr⟩
 | fuel + 1, t, listed, L, st, I, hf, hr => by
  rcases pick D hd I fuel t with ⟨rfl, e⟩ | ⟨i, t', pre, k, y, y', post, o, rfl, e, ho, hc, hu, I', hpre, _⟩
  · exact ⟨[], by rw [e]; exact .nil, by simpa [runI] using hr⟩
  · rcases front (.inl ⟨rfl, hchk⟩) hr hpre I.ins I.pw with ⟨st1, h1, h2, _⟩ | ⟨v, hp, h, _⟩
    · obtain ⟨is', h3, h4⟩ := any_order D hd hchk fuel t' _ _ st1 I' (by simp at hf ⊢; omega) h2
      exact ⟨y' :: is', by rw [e]; exact .cons ho hc h3, by rw [um_exec hu h1]; exact h4⟩
    · cases h
theorem any_boom (D : Drawn P cfg n ops perm aft is) (hd : drawOk aft is chk 0 is = true) {v : AV} {stF : St} :
 ∀ (fuel t : Nat) (listed : Array Bool) (L : List (Nat × Ins)) (st : St), Inv ops perm is listed L → L.length ≤ fuel → runI X true (L.map (·.2)) st = some (.pan v, stF) →
  ∃ is' st2, Match P cfg n ops true (Region.linearise.go .any ops fuel t listed []) is' ∧ runI X false is' st = some (.pan v, st2) ∧ st2.h = stF.h ∧ st2.ds = stF.ds ∧ st2.rc = stF.rc ∧ st2.n0 = stF.n0 ∧
   ∀ t, (∀ z ∈ L.map (·.2), z.dst ≠ some t) → st2.fr t = stF.fr t
 | 0, t, listed, L, st, I, hf, hr => by
  have : L = [] := List.eq_nil_of_length_eq_zero (by omega)
  subst this
  simp [runI] at hr
 | fuel + 1, t, listed, L, st, I, hf, hr => by
  rcases pick D hd I fuel t with ⟨rfl, e⟩ | ⟨i, t', pre, k, y, y', post, o, rfl, e, ho, hc, hu, I', hpre, hls⟩
  · simp [runI] at hr
  · have hfront : (∀ x, loadStore x y = none) → _ := fun h => front (.inr h) hr hpre I.ins I.pw
    have hno : ∀ x, loadStore x y = none := by
     cases hyd : isD y.act with
     | true =>
      intro x
      unfold loadStore
      split
      · rename_i hy _; rw [hy] at hyd; cases hyd
      · rename_i hy _; rw [hy] at hyd; cases hyd
      · rename_i hy _; rw [hy] at hyd; cases hyd
      · rename_i hy _; rw [hy] at hyd; cases hyd
      · rfl
     | false =>
      obtain ⟨z, hz, hzd⟩ := run_pan_D hr
      obtain ⟨q, hq, rfl⟩ := List.mem_map.1 hz
      rcases List.mem_append.1 hq with hq | hq
      · rw [(hpre q hq).1] at hzd; cases hzd
      · rcases List.mem_cons.1 hq with rfl | hq
        · simp only at hzd; rw [hyd] at hzd; cases hzd
        · exact hls ⟨q, hq, hzd⟩
    rcases hfront hno with ⟨st1, h1, h2, _⟩ | ⟨v', hp, ev, eh, e3, e4, e5, e6, stm, e7, e8, e9⟩
    · obtain ⟨is', st2, h3, h4, h5, h6, h7, h8, h9⟩ := any_boom D hd fuel t' _ _ st1 I' (by simp at hf ⊢; omega) h2
      refine ⟨y' :: is', st2, by rw [e]; exact .cons ho hc h3, by rw [um_exec hu h1]; exact h4, h5, h6, h7, h8, fun t ht => h9 t fun z hz => ht z ?_⟩
      simp only [List.map_append, List.map_cons, List.mem_append, List.mem_cons] at hz ⊢
      rcases hz with h | h
      · exact .inl h
      · exact .inr (.inr h)
    · cases ev
      obtain ⟨is', hm⟩ := any_match D hd fuel t' _ _ I'
      have hb : ∀ (l : List (Nat × Ins)) (s : St), (∀ p ∈ l, PairSw is chk p.1 k p.2 y) → runI X true (l.map (·.2)) s = some (.nor, stm) → Boom0 X y s v hp := by
       intro l
       induction l with
       | nil => intro s _ h; simp only [List.map_nil, runI, Option.some.injEq, Prod.mk.injEq, true_and] at h; rw [h]; exact e8.b0
       | cons p l ih =>
        intro s hl h
        obtain ⟨s1, a1, a2⟩ := (exec_runI X p.2 _ s stm).1 (by simpa using h)
        have := ih s1 (fun q hq => hl q (List.mem_cons_of_mem _ hq)) a2
        exact boom_back (hl p List.mem_cons_self).2.1 ((hl p List.mem_cons_self).2.2.2 e6) a1 this
      refine ⟨y' :: is', { st with h := hp }, by rw [e]; exact .cons ho hc hm, um_boom hu (hb pre st hpre e7) _, eh.symm, e3.symm, e4.symm, e5.symm, fun t ht => ?_⟩
      rw [e9]
      show st.fr t = stm.fr t
      refine (run_keep e7 fun z hz => ht z ?_).symm
      simp only [List.map_append, List.mem_append]
      exact .inl hz
end
end
theorem getL_get {α : Type} {l : List α} : ∀ {perm : List Nat} {r : List α}, getL l perm = some r → r.length = perm.length ∧ ∀ (k : Nat) x, r[k]? = some x → ∃ i, perm[k]? = some i ∧ l[i]? = some x
 | [], r, h => by simp only [getL, Option.some.injEq] at h; subst h; simp
 | i :: perm, r, h => by
  simp only [getL] at h
  split at h
  · rename_i x y h1 h2
    cases h
    obtain ⟨e1, e2⟩ := getL_get h2
    refine ⟨by simp [e1], fun k z hz => ?_⟩
    cases k with
    | zero => simp at hz; subst hz; exact ⟨i, rfl, h1⟩
    | succ k => simpa using e2 k z (by simpa using hz)
  · cases h
theorem markD_get {aft : List (List Nat)} {is0 : List Ins} : ∀ {is : List Ins} {i : Nat}, is.all (fun z => !isD z.act) = true → (markD aft is0 i is).length = is.length ∧ ∀ (k : Nat) z, (markD aft is0 i is)[k]? = some z → ∃ z', is[k]? = some z' ∧ Um z z'
 | [], i, _ => by simp [markD]
 | ⟨d, g, act, xs⟩ :: is, i, ha => by
  simp only [List.all_cons, Bool.and_eq_true, Bool.not_eq_true'] at ha
  obtain ⟨e1, e2⟩ := markD_get (aft := aft) (is0 := is0) (is := is) (i := i + 1) ha.2
  have gen : ∀ (w : Ins), Um w ⟨d, g, act, xs⟩ → (w :: markD aft is0 (i + 1) is).length = (⟨d, g, act, xs⟩ :: is).length ∧ ∀ (k : Nat) z, (w :: markD aft is0 (i + 1) is)[k]? = some z → ∃ z', (⟨d, g, act, xs⟩ :: is)[k]? = some z' ∧ Um z z' := by
   intro w hw
   refine ⟨by simp [e1], fun k z hz => ?_⟩
   cases k with
   | zero => simp at hz; subst hz; exact ⟨_, rfl, hw⟩
   | succ k => simpa using e2 k z (by simpa using hz)
  unfold markD
  split
  · rename_i heq; cases heq
  · rename_i heq; cases heq; exact gen _ (.inr rfl)
  · rename_i heq; cases heq; exact gen _ (.inl ⟨rfl, ha.1⟩)
theorem permOk_get {aft : List (List Nat)} : ∀ {perm done : List Nat}, permOk aft done perm = true → (∀ i ∈ perm, i ∉ done) ∧ perm.Nodup ∧ ∀ (k i : Nat), perm[k]? = some i → ∃ l, aft[i]? = some l ∧ ∀ m ∈ l, m ∈ done ∨ ∃ j, j < k ∧ perm[j]? = some m
 | [], done, h => ⟨fun _ h => (by cases h), List.nodup_nil, fun k i h => by simp at h⟩
 | x :: perm, done, h => by
  simp only [permOk, Bool.and_eq_true, Bool.not_eq_true'] at h
  obtain ⟨⟨h1, h2⟩, h3⟩ := h
  obtain ⟨a1, a2, a3⟩ := permOk_get h3
  have hx : x ∉ done := fun hm => by rw [memb_iff.2 hm] at h2; cases h2
  refine ⟨fun i hi => ?_, List.nodup_cons.2 ⟨fun hm => a1 x hm List.mem_cons_self, a2⟩, fun k i hk => ?_⟩
  · rcases List.mem_cons.1 hi with rfl | hi
    · exact hx
    · exact fun hm => a1 i hi (List.mem_cons_of_mem _ hm)
  · cases k with
    | zero =>
     simp at hk
     subst hk
     split at h1
     · rename_i l hl
       exact ⟨l, hl, fun m hm => .inl (memb_iff.1 (List.all_eq_true.1 h1 m hm))⟩
     · cases h1
    | succ k =>
     simp at hk
     obtain ⟨l, b1, b2⟩ := a3 k i hk
     refine ⟨l, b1, fun m hm => ?_⟩
     rcases b2 m hm with h | ⟨j, hj, hjm⟩
     · rcases List.mem_cons.1 h with rfl | h
       · exact .inr ⟨0, by omega, rfl⟩
       · exact .inl h
     · exact .inr ⟨j + 1, by omega, by simpa using hjm⟩
theorem drawnBy_ok {P : Program} {cfg : Cfg} {n : Nat} {ops : Array Oper} {is0 : List Ins} (hc : compInss P cfg n ops true ops.toList = some is0) {mark : Bool} {perm : List Nat} {cc : CC} (h : drawnBy (ops.toList.map afters) is0 mark perm = some cc) :
 ∃ is chk, cc = .reg (some chk) is ∧ Drawn P cfg n ops perm (aftP perm (ops.toList.map afters)) is ∧ drawOk (aftP perm (ops.toList.map afters)) is chk 0 is = true ∧ is.length = ops.size := by
 unfold drawnBy at h
 split at h
 · rename_i is1 hg
   simp only at h
   split at h
   · rename_i hd
     cases h
     simp only [Bool.and_eq_true] at hd
     obtain ⟨⟨⟨hd, hp⟩, hl⟩, hall⟩ := hd
     have hl := Nat.eq_of_beq_eq_true hl
     obtain ⟨c1, c2⟩ := compInss_get hc
     obtain ⟨g1, g2⟩ := getL_get hg
     obtain ⟨_, p2, p3⟩ := permOk_get hp
     simp only [Array.length_toList] at c1
     -- the instructions
     have key : ∀ is : List Ins, is.length = is1.length → (∀ (k : Nat) z, is[k]? = some z → ∃ z', is1[k]? = some z' ∧ Um z z') → Drawn P cfg n ops perm (aftP perm (ops.toList.map afters)) is := by
      intro is hlen hum
      have hgt : ∀ (k i : Nat), perm[k]? = some i → ∃ o, ops[i]? = some o := by
       intro k i hk
       have hk1 : k < is1.length := by rw [g1]; exact (List.getElem?_eq_some_iff.1 hk).1
       obtain ⟨i', e1, e2⟩ := g2 k is1[k] (List.getElem?_eq_getElem hk1)
       rw [hk] at e1; cases e1
       obtain ⟨o, e3, _⟩ := c2 i _ e2
       exact ⟨o, by rw [← Array.getElem?_toList]; exact e3⟩
      have hperm : ∀ i, i < ops.size → i ∈ perm := by
       intro i hi
       refine Classical.byContradiction fun hn => ?_
       have hlt : ∀ j ∈ perm, j < ops.size := fun j hj => by
        obtain ⟨k, hk⟩ := List.getElem?_of_mem hj
        obtain ⟨o, ho⟩ := hgt k j hk
        exact (Array.getElem?_eq_some_iff.1 ho).1
       have hsub : (i :: perm).Nodup := List.nodup_cons.2 ⟨hn, p2⟩
       have := (List.nodup_iff_count.1 hsub)
       have hle : (i :: perm).length ≤ (List.range ops.size).length := List.Nodup.length_le_of_subset hsub (fun j hj => by
        rw [List.mem_range]
        rcases List.mem_cons.1 hj with rfl | hj
        · exact hi
        · exact hlt j hj)
       simp at hle
       omega
      refine ⟨fun k z hz => ?_, fun i hi => ?_, fun k k' i hk hk' => ?_, fun k l j hk hj => ?_, fun k i o m hk ho hm => ?_⟩
      · obtain ⟨z', e1, e2⟩ := hum k z hz
        obtain ⟨i, e3, e4⟩ := g2 k z' e1
        obtain ⟨o, e5, e6⟩ := c2 i z' e4
        exact ⟨i, o, z', e3, by rw [← Array.getElem?_toList]; exact e5, e6, e2⟩
      · obtain ⟨k, hk⟩ := List.getElem?_of_mem (hperm i hi)
        have hkl : k < is.length := by rw [hlen, g1]; exact (List.getElem?_eq_some_iff.1 hk).1
        exact ⟨k, is[k], hk, List.getElem?_eq_getElem hkl⟩
      · exact nodup_get p2 hk hk'
      · simp only [aftP, List.getElem?_map, Option.map_eq_some_iff] at hk
        obtain ⟨i, e1, e2⟩ := hk
        obtain ⟨o, ho⟩ := hgt k i e1
        have ha : (ops.toList.map afters)[i]? = some (afters o) := by simp [ho]
        simp only [List.getElem?_map] at ha
        rw [ha] at e2
        simp only at e2
        subst e2
        obtain ⟨m, hm, hpl⟩ := List.mem_filterMap.1 hj
        exact ⟨i, m, o, e1, place_get hpl, ho, hm⟩
      · obtain ⟨l, e1, e2⟩ := p3 k i hk
        have ha : (ops.toList.map afters)[i]? = some (afters o) := by simp [ho]
        rw [ha] at e1
        cases e1
        rcases e2 m hm with h | h
        · cases h
        · exact h
     cases mark with
     | true =>
      obtain ⟨m1, m2⟩ := markD_get (aft := aftP perm (ops.toList.map afters)) (is0 := is1) (is := is1) (i := 0) hall
      exact ⟨_, _, rfl, key _ m1 m2, hd, by rw [m1, g1, hl, c1]⟩
     | false => exact ⟨_, _, rfl, key _ rfl fun k z hz => ⟨z, hz, .inl ⟨rfl, by have := List.all_eq_true.1 hall z (List.mem_of_getElem? hz); simpa using this⟩⟩, hd, by rw [g1, hl, c1]⟩
   · cases h
 · cases h
theorem inv_start {ops : Array Oper} {perm : List Nat} {is : List Ins} {P : Program} {cfg : Cfg} {n : Nat} {aft : List (List Nat)} (D : Drawn P cfg n ops perm aft is) : Inv ops perm is (Array.replicate ops.size false) (is.zipIdx.map fun p => (p.2, p.1)) := by
 have hrep : ∀ m, (Array.replicate ops.size false).getD m false = false := by
  intro m
  rw [Array.getD_eq_getD_getElem?]
  simp only [Array.getElem?_replicate]
  split <;> rfl
 refine ⟨by simp, fun m o ho hm => ?_, fun k i hk hi => ?_, fun p hp => ?_, ?_⟩
 · rw [hrep] at hm; cases hm
 · rw [hrep, List.map_map]
   have : ((fun p : Nat × Ins => p.1) ∘ fun p : Ins × Nat => (p.2, p.1)) = fun p => p.2 := rfl
   rw [this, List.zipIdx_map_snd, List.mem_range']
   simp only [iff_true]
   obtain ⟨k', z, h1, h2⟩ := D.all i hi
   have : k = k' := D.inj k k' i hk h1
   subst this
   exact ⟨k, (List.getElem?_eq_some_iff.1 h2).1, by omega⟩
 · obtain ⟨q, hq, rfl⟩ := List.mem_map.1 hp
   exact List.mem_zipIdx_iff_getElem?.1 hq
 · rw [List.pairwise_map]
   have h := List.pairwise_lt_range' (s := 0) (n := is.length) (step := 1)
   rw [← List.zipIdx_map_snd 0 is, List.pairwise_map] at h
   exact h
theorem zip_map (is : List Ins) : (is.zipIdx.map fun p => (p.2, p.1)).map (·.2) = is := by
 rw [List.map_map]
 have : ((fun p : Nat × Ins => p.2) ∘ fun p : Ins × Nat => (p.2, p.1)) = fun p => p.1 := rfl
 rw [this, List.zipIdx_map_fst]
theorem draw_any {P : Program} {cfg : Cfg} {n : Nat} {ops : Array Oper} {perm : List Nat} {aft : List (List Nat)} {X : Ext} {is : List Ins} {chk : List (Nat × Nat × Nat × Nat)} {st stF : St} (D : Drawn P cfg n ops perm aft is) (hl : is.length = ops.size)
 (hd : drawOk aft is chk 0 is = true) (hchk : checks stF.fr chk = true) (hr : runI X true is st = some (.nor, stF)) {t : Nat} : ∃ is', Match P cfg n ops true (Region.linearise .any ops t) is' ∧ runI X false is' st = some (.nor, stF) :=
 any_order D hd hchk ops.size t _ _ st (inv_start D) (by simp [hl]) (by rw [zip_map]; exact hr)
theorem draw_boom {P : Program} {cfg : Cfg} {n : Nat} {ops : Array Oper} {perm : List Nat} {aft : List (List Nat)} {X : Ext} {is : List Ins} {chk : List (Nat × Nat × Nat × Nat)} {st stF : St} {v : AV} (D : Drawn P cfg n ops perm aft is) (hl : is.length = ops.size)
 (hd : drawOk aft is chk 0 is = true) (hr : runI X true is st = some (.pan v, stF)) {t : Nat} :
 ∃ is' st2, Match P cfg n ops true (Region.linearise .any ops t) is' ∧ runI X false is' st = some (.pan v, st2) ∧ st2.h = stF.h ∧ st2.ds = stF.ds ∧ st2.rc = stF.rc ∧ st2.n0 = stF.n0 ∧ ∀ t, (∀ z ∈ is, z.dst ≠ some t) → st2.fr t = stF.fr t := by
 have := any_boom D hd ops.size t _ _ st (inv_start D) (by simp [hl]) (by rw [zip_map]; exact hr)
 rw [zip_map] at this
 exact this
end Go.Proofs.YtlhajccbfapieaaGreatDoor.Ab
