/- Regions that are run in any order: any order. -/
import Derived.Test.YtapnjabhcdlhbaaGreatDoorAbDraw4
import Derived.Test.YtapnjabhcdlhbaaGreatDoorAbRun3
namespace Go.Proofs.YtapnjabhcdlhbaaGreatDoor.Ab
open Go
set_option linter.unusedVariables false
set_option linter.unusedSimpArgs false

theorem exec_keep {X : Ext} {i : Ins} {st st1 : St} (h : exec X i st = some st1) {t : Nat} (ht : i.dst ≠ some t) : st1.fr t = st.fr t := by
  unfold exec at h
  split at h
  · split at h
    · cases h; simp only [put_get']; rw [if_neg ht]
    · cases h
  · cases h; simp only [put_get']; rw [if_neg ht]
  · cases h
theorem run_keep {X : Ext} : ∀ {l : List Ins} {st stF : St}, runI X true l st = some (.nor, stF) → ∀ {t : Nat}, (∀ z ∈ l, z.dst ≠ some t) → stF.fr t = st.fr t
  | [], st, stF, h, t, _ => by simp only [runI, Option.some.injEq, Prod.mk.injEq, true_and] at h; rw [h]
  | i :: l, st, stF, h, t, ht => by
    obtain ⟨st1, h1, h2⟩ := (exec_runI X i l st stF).1 h
    rw [run_keep h2 fun z hz => ht z (List.mem_cons_of_mem _ hz), exec_keep h1 (ht i List.mem_cons_self)]

theorem checks_mem {f : Nat → AV} {q : Nat × Nat × Nat × Nat} : ∀ {chk : List (Nat × Nat × Nat × Nat)}, checks f chk = true → chk.any (beq4 q) = true → apart (f q.1) q.2.1 (f q.2.2.1) q.2.2.2 = true
  | [], _, h => by simp at h
  | (t, n, u, m) :: l, hc, h => by
    simp only [checks] at hc
    split at hc
    · rename_i ha
      simp only [List.any_cons, Bool.or_eq_true] at h
      rcases h with h | h
      · simp only [beq4, Bool.and_eq_true] at h
        obtain ⟨⟨⟨h1, h2⟩, h3⟩, h4⟩ := h
        rw [Nat.eq_of_beq_eq_true h1, Nat.eq_of_beq_eq_true h2, Nat.eq_of_beq_eq_true h3, Nat.eq_of_beq_eq_true h4]
        exact ha
      · exact checks_mem hc h
    · cases hc

theorem noDst_mem {t : Nat} {l : List Ins} (h : noDst t l = true) {z : Ins} (hz : z ∈ l) : z.dst ≠ some t := by
  simp only [noDst, List.all_eq_true] at h
  intro e
  exact otherDst_iff (h z hz) rfl e
theorem mem_drop {is : List Ins} {m j : Nat} {z : Ins} (h : is[m]? = some z) (hj : j ≤ m) : z ∈ is.drop j := by
  refine List.mem_of_getElem? (i := m - j) ?_
  rw [List.getElem?_drop, show j + (m - j) = m by omega]
  exact h

/-- Whichever is ready may come first. -/
theorem front {X : Ext} {is : List Ins} {chk : List (Nat × Nat × Nat × Nat)} {stF : St} (hchk : checks stF.fr chk = true) {i : Nat} {y : Ins} {post : List (Nat × Ins)} :
    ∀ {pre : List (Nat × Ins)} {st : St}, runI X true ((pre ++ (i, y) :: post).map (·.2)) st = some (.nor, stF) → (∀ p ∈ pre, slotsApart p.2 y = true ∧ memOk is chk p.1 i p.2 y = true) →
      (∀ p ∈ pre ++ (i, y) :: post, is[p.1]? = some p.2) → (pre ++ (i, y) :: post).Pairwise (fun p q => p.1 < q.1) →
      ∃ st1, exec X y st = some st1 ∧ runI X true ((pre ++ post).map (·.2)) st1 = some (.nor, stF)
  | [], st, hr, _, _, _ => by simpa using (exec_runI X y _ st stF).1 (by simpa using hr)
  | (j, x) :: pre, st, hr, hp, hin, hs => by
    simp only [List.cons_append, List.map_cons] at hr
    obtain ⟨s1, h1, h2⟩ := (exec_runI X x _ st stF).1 hr
    simp only [List.cons_append, List.pairwise_cons] at hs
    obtain ⟨s2, h3, h4⟩ := front hchk (pre := pre) h2 (fun p hp' => hp p (List.mem_cons_of_mem _ hp')) (fun p hp' => hin p (List.mem_cons_of_mem _ hp')) hs.2
    obtain ⟨hsl, hmem⟩ := hp (j, x) List.mem_cons_self
    have hpost : ∀ p ∈ (i, y) :: post, i ≤ p.1 := by
      intro p hp'
      rcases List.mem_cons.1 hp' with rfl | hp'
      · exact Nat.le_refl _
      · have := (List.pairwise_append.1 hs.2).2.1
        exact Nat.le_of_lt ((List.pairwise_cons.1 this).1 p hp')
    have hswap : EffSwap X x y (evs st.fr x.xs) (evs st.fr y.xs) st.h := by
      refine effSwap_of hmem fun q hq hany hn1 hn2 p v rest hv hu => ?_
      have hc := checks_mem hchk hany
      have hx : ∃ ta, x.xs = [.t ta] ∧ q.1 = ta := by
        unfold loadStore at hq
        split at hq
        · rename_i hxx _ _; cases hq; exact ⟨_, hxx, rfl⟩
        · rename_i hxx _ _; cases hq; exact ⟨_, hxx, rfl⟩
        · cases hq
      have hy : ∃ tu r, y.xs = .t tu :: r ∧ q.2.2.1 = tu := by
        unfold loadStore at hq
        split at hq
        · rename_i hyx; cases hq; exact ⟨_, _, hyx, rfl⟩
        · rename_i hyx; cases hq; exact ⟨_, _, hyx, rfl⟩
        · cases hq
      obtain ⟨ta, hxx, hta⟩ := hx
      obtain ⟨tu, r, hyx, htu⟩ := hy
      rw [hxx] at hv
      rw [hyx] at hu
      simp only [evs, ev, List.cons.injEq] at hv hu
      have k1 : stF.fr ta = st.fr ta := by
        refine run_keep hr fun z hz => ?_
        rw [← hta]
        rcases List.mem_cons.1 hz with rfl | hz
        · exact noDst_mem hn1 (mem_drop (hin (j, z) List.mem_cons_self) (Nat.le_refl _))
        · obtain ⟨p, hp', rfl⟩ := List.mem_map.1 hz
          exact noDst_mem hn1 (mem_drop (hin p (List.mem_cons_of_mem _ hp')) (Nat.le_of_lt (hs.1 p hp')))
      have huy : tu ∈ uses y := uses_xs (by rw [hyx]; exact List.mem_cons_self)
      have k2 : stF.fr tu = st.fr tu := by
        refine run_keep hr fun z hz => ?_
        have hap : ∀ w, slotsApart w y = true → w.dst ≠ some tu := fun w hw => by
          simp only [slotsApart, Bool.and_eq_true] at hw
          exact notDst_iff hw.1.1 huy
        rcases List.mem_cons.1 hz with rfl | hz
        · exact hap _ hsl
        · obtain ⟨p, hp', rfl⟩ := List.mem_map.1 hz
          rcases List.mem_append.1 hp' with hp' | hp'
          · exact hap _ (hp p (List.mem_cons_of_mem _ hp')).1
          · rw [← htu]
            exact noDst_mem hn2 (mem_drop (hin p (List.mem_cons_of_mem _ (List.mem_append_right _ hp'))) (hpost p hp'))
      rw [hta, htu, k1, k2] at hc
      rw [← hv.1, ← hu.1]
      exact hc
    obtain ⟨s1', h5, h6⟩ := swap hsl (fun _ => hswap) h1 h3
    refine ⟨s1', h5, ?_⟩
    simp only [List.cons_append, List.map_cons]
    exact (exec_runI X x _ s1' stF).2 ⟨s2, h6, h4⟩

/-! ### The static look -/
theorem pairsOk_get {aft : List (List Nat)} {is : List Ins} {chk : List (Nat × Nat × Nat × Nat)} {i : Nat} {y : Ins} : ∀ {l : List Ins} {j0 : Nat}, pairsOk aft is chk i y j0 l = true → ∀ (m : Nat) x, l[m]? = some x → j0 + m < i → pairOk aft is chk (j0 + m) i x y = true
  | [], _, _, m, x, hx, _ => by simp at hx
  | z :: l, j0, h, m, x, hx, hlt => by
    simp only [pairsOk] at h
    split at h
    · simp only [Bool.and_eq_true] at h
      cases m with
      | zero => simp at hx; subst hx; exact h.1
      | succ m =>
        have := pairsOk_get h.2 m x (by simpa using hx) (by omega)
        rwa [show j0 + 1 + m = j0 + (m + 1) by omega] at this
    · rename_i hb
      have : ¬ j0 < i := fun hlt => by
        have : Nat.blt j0 i = true := Nat.ble_eq_true_of_le hlt
        rw [this] at hb; cases hb
      omega
theorem drawOk_get {aft : List (List Nat)} {is : List Ins} {chk : List (Nat × Nat × Nat × Nat)} : ∀ {l : List Ins} {i0 : Nat}, drawOk aft is chk i0 l = true → ∀ (m : Nat) y, l[m]? = some y → pairsOk aft is chk (i0 + m) y 0 is = true
  | [], _, _, m, y, hy => by simp at hy
  | z :: l, i0, h, m, y, hy => by
    simp only [drawOk, Bool.and_eq_true] at h
    cases m with
    | zero => simp at hy; subst hy; exact h.1
    | succ m =>
      have := drawOk_get h.2 m y (by simpa using hy)
      rwa [show i0 + 1 + m = i0 + (m + 1) by omega] at this
theorem backOk_get : ∀ {r : List (List Nat)} {i0 : Nat}, backOk i0 r = true → ∀ (m : Nat) l, r[m]? = some l → ∀ k ∈ l, k < i0 + m
  | [], _, _, m, l, hl => by simp at hl
  | z :: r, i0, h, m, l, hl => by
    simp only [backOk, Bool.and_eq_true] at h
    cases m with
    | zero =>
      simp at hl
      subst hl
      intro k hk
      have := List.all_eq_true.1 h.1 k hk
      exact Nat.le_of_ble_eq_true this
    | succ m =>
      have := backOk_get h.2 m l (by simpa using hl)
      intro k hk
      have := this k hk
      omega

section
variable {ops : Array Oper} {listed : Array Bool}
/-- Whatever is listed has its forerunners listed. -/
def Closed (ops : Array Oper) (listed : Array Bool) : Prop := ∀ (m : Nat) o, ops[m]? = some o → listed.getD m false = true → ∀ k ∈ afters o, listed.getD k false = true
theorem ordered_listed (hcl : Closed ops listed) : ∀ (f j i : Nat) (o : Oper), ops[i]? = some o → (∀ k ∈ afters o, listed.getD k false = true) → ordered (ops.toList.map afters) f j i = true → listed.getD j false = true
  | 0, _, _, _, _, _, h => by simp [ordered] at h
  | f + 1, j, i, o, ho, hl, h => by
    simp only [ordered] at h
    have : (ops.toList.map afters)[i]? = some (afters o) := by simp [ho]
    rw [this] at h
    simp only [Bool.or_eq_true] at h
    rcases h with h | h
    · exact hl j (memb_iff.1 h)
    · rw [List.any_eq_true] at h
      obtain ⟨k, hk, h⟩ := h
      have hkl := hl k hk
      cases hok : ops[k]? with
      | none =>
        cases f with
        | zero => simp [ordered] at h
        | succ f =>
          have : (ops.toList.map afters)[k]? = none := by simp [hok]
          simp only [ordered, this] at h
          cases h
      | some ok => exact ordered_listed hcl f j k ok hok (hcl k ok hok hkl) h

theorem compInss_get {P : Program} {cfg : Cfg} {n : Nat} {draw : Bool} : ∀ {l : List Oper} {is : List Ins}, compInss P cfg n ops draw l = some is → is.length = l.length ∧ ∀ (m : Nat) z, is[m]? = some z → ∃ o, l[m]? = some o ∧ compIns P cfg n ops draw o = some z
  | [], is, h => by simp only [compInss, Option.some.injEq] at h; subst h; simp
  | o :: l, is, h => by
    simp only [compInss] at h
    split at h
    · rename_i i is' h1 h2
      cases h
      obtain ⟨e1, e2⟩ := compInss_get h2
      refine ⟨by simp [e1], fun m z hz => ?_⟩
      cases m with
      | zero => simp at hz; subst hz; exact ⟨o, rfl, h1⟩
      | succ m => simpa using e2 m z (by simpa using hz)
    · cases h

theorem afters_iff {o : Oper} {k : Nat} : k ∈ afters o ↔ ∃ e ∈ o.after, Region.binds .any e = true ∧ e.on = k := by
  unfold afters
  simp only [List.mem_map, List.mem_filter, Array.mem_toList_iff]
  constructor
  · rintro ⟨e, ⟨h1, h2⟩, h3⟩; exact ⟨e, h1, h2, h3⟩
  · rintro ⟨e, h1, h2, h3⟩; exact ⟨e, ⟨h1, h2⟩, h3⟩

theorem any_order {P : Program} {cfg : Cfg} {n : Nat} {X : Ext} {is : List Ins} {chk : List (Nat × Nat × Nat × Nat)} {stF : St} (hc : compInss P cfg n ops true ops.toList = some is)
    (hd : drawOk (ops.toList.map afters) is chk 0 is = true) (hb : backOk 0 (ops.toList.map afters) = true) (hchk : checks stF.fr chk = true) :
    ∀ (fuel t : Nat) (listed : Array Bool) (L : List (Nat × Ins)) (st : St), listed.size = ops.size → Closed ops listed → (∀ m, m ∈ L.map (·.1) ↔ m < ops.size ∧ listed.getD m false = false) → (∀ p ∈ L, is[p.1]? = some p.2) →
      L.Pairwise (fun p q => p.1 < q.1) → L.length ≤ fuel → runI X true (L.map (·.2)) st = some (.nor, stF) →
      ∃ is', Match P cfg n ops true (Region.linearise.go .any ops fuel t listed []) is' ∧ runI X true is' st = some (.nor, stF)
  | 0, t, listed, L, st, hsz, hcl, hL, hin, hs, hf, hr => by
    have : L = [] := List.eq_nil_of_length_eq_zero (by omega)
    subst this
    exact ⟨[], by simp [Region.linearise.go]; exact .nil, hr⟩
  | fuel + 1, t, listed, L, st, hsz, hcl, hL, hin, hs, hf, hr => by
    obtain ⟨hlen, hget⟩ := compInss_get hc
    simp only [Array.length_toList] at hlen
    simp only [Region.linearise.go]
    have hready : ∀ i, i ∈ Region.ready .any ops listed ↔ listed.getD i true = false ∧ ∃ o, ops[i]? = some o ∧ ∀ k ∈ afters o, listed.getD k false = true := by
      intro i
      rw [mem_ready]
      constructor
      · rintro ⟨h1, o, h2, h3⟩
        refine ⟨h1, o, h2, fun k hk => ?_⟩
        obtain ⟨e, e1, e2, rfl⟩ := afters_iff.1 hk
        exact h3 e e1 e2
      · rintro ⟨h1, o, h2, h3⟩
        exact ⟨h1, o, h2, fun e e1 e2 => h3 e.on (afters_iff.2 ⟨e, e1, e2, rfl⟩)⟩
    show ∃ is', Match P cfg n ops true (match (Region.ready .any ops listed)[t % (Region.ready .any ops listed).length]? with
      | some i => Region.linearise.go .any ops fuel (t / (Region.ready .any ops listed).length) (listed.setIfInBounds i true) [i]
      | none => [].reverse) is' ∧ _
    cases hi : (Region.ready .any ops listed)[t % (Region.ready .any ops listed).length]? with
    | none =>
      have hnil : Region.ready .any ops listed = [] := by
        cases hr : Region.ready .any ops listed with
        | nil => rfl
        | cons x xs =>
          rw [hr] at hi
          have hlt : t % (x :: xs).length < (x :: xs).length := Nat.mod_lt _ (by simp)
          simp at hi
          simp at hlt
          omega
      have : L = [] := by
        cases L with
        | nil => rfl
        | cons p L =>
          exfalso
          obtain ⟨m, z⟩ := p
          obtain ⟨hm, hlm⟩ := (hL m).1 (by simp)
          have : m ∈ Region.ready .any ops listed := by
            rw [hready]
            have hom : ops[m]? = some ops[m] := Array.getElem?_eq_getElem hm
            refine ⟨?_, ops[m], hom, fun k hk => ?_⟩
            · rw [Array.getD_eq_getD_getElem?, Array.getElem?_eq_getElem (by omega)] at hlm ⊢
              simpa using hlm
            · have hkm : k < m := by
                have := backOk_get hb m (afters ops[m]) (by simp [hm]) k hk
                omega
              cases hk' : listed.getD k false with
              | true => rfl
              | false =>
                have hkL := (hL k).2 ⟨by omega, hk'⟩
                simp only [List.map_cons, List.mem_cons] at hkL
                rcases hkL with rfl | hkL
                · omega
                · obtain ⟨q, hq, rfl⟩ := List.mem_map.1 hkL
                  have := (List.pairwise_cons.1 hs).1 q hq
                  simp only at this
                  omega
          rw [hnil] at this
          cases this
      subst this
      exact ⟨[], .nil, hr⟩
    | some i =>
      simp only
      rw [linearise_go_acc, List.reverse_singleton, List.singleton_append]
      obtain ⟨hi0, o, ho, hpre⟩ := (hready i).1 (List.mem_of_getElem? hi)
      have hilt : i < ops.size := (Array.getElem?_eq_some_iff.1 ho).1
      have hi1 : listed.getD i false = false := by
        rw [Array.getD_eq_getD_getElem?, Array.getElem?_eq_getElem (by omega)] at hi0 ⊢
        simpa using hi0
      obtain ⟨p, hp, hpi⟩ := List.mem_map.1 ((hL i).2 ⟨hilt, hi1⟩)
      obtain ⟨i', y⟩ := p
      simp only at hpi
      subst hpi
      obtain ⟨pre, post, rfl⟩ := List.append_of_mem hp
      have hsplit := List.pairwise_append.1 hs
      obtain ⟨st1, h1, h2⟩ := front hchk hr (fun q hq => by
        have hqlt : q.1 < i' := hsplit.2.2 q hq (i', y) List.mem_cons_self
        have hqin := hin q (List.mem_append_left _ hq)
        have hyin := hin (i', y) (by simp)
        have hp1 := drawOk_get hd i' y hyin
        rw [Nat.zero_add] at hp1
        have hp2 := pairsOk_get hp1 q.1 q.2 hqin (by omega)
        rw [Nat.zero_add] at hp2
        simp only [pairOk, Bool.or_eq_true, Bool.and_eq_true] at hp2
        rcases hp2 with hp2 | hp2
        · exact hp2
        · exfalso
          have := ordered_listed hcl 4 q.1 i' o ho hpre hp2
          have hq2 := ((hL q.1).1 (List.mem_map.2 ⟨q, List.mem_append_left _ hq, rfl⟩)).2
          rw [this] at hq2
          cases hq2) hin hs
      obtain ⟨o', ho', hcomp⟩ := hget i' y (hin (i', y) (by simp))
      rw [Array.getElem?_toList] at ho'
      have hsz' : (listed.setIfInBounds i' true).size = ops.size := by simpa using hsz
      have hset : ∀ m, (listed.setIfInBounds i' true).getD m false = if m = i' then true else listed.getD m false := by
        intro m
        rw [Array.getD_eq_getD_getElem?, Array.getD_eq_getD_getElem?]
        by_cases hm : m = i'
        · subst hm
          rw [Array.getElem?_setIfInBounds_self_of_lt (by omega)]
          simp
        · rw [Array.getElem?_setIfInBounds_ne (Ne.symm hm), if_neg hm]
      have hpw : (pre ++ post).Pairwise (fun p q => p.1 < q.1) := hs.sublist (List.Sublist.append (List.Sublist.refl _) (List.sublist_cons_self _ _))
      obtain ⟨is', h3, h4⟩ := any_order hc hd hb hchk fuel (t / (Region.ready .any ops listed).length) (listed.setIfInBounds i' true) (pre ++ post) st1 hsz'
        (fun m o2 ho2 hm k hk => by
          rw [hset]
          by_cases hki : k = i'
          · simp [hki]
          · rw [if_neg hki]
            rw [hset] at hm
            by_cases hmi : m = i'
            · subst hmi
              rw [ho] at ho2
              cases ho2
              exact hpre k hk
            · rw [if_neg hmi] at hm
              exact hcl m o2 ho2 hm k hk)
        (fun m => by
          rw [hset]
          have hLm := hL m
          simp only [List.map_append, List.map_cons, List.mem_append, List.mem_cons] at hLm ⊢
          by_cases hmi : m = i'
          · subst hmi
            simp only [if_true, Bool.true_eq_false, and_false, iff_false]
            rintro (h | h)
            · obtain ⟨q, hq, e⟩ := List.mem_map.1 h
              have := hsplit.2.2 q hq (m, y) List.mem_cons_self
              simp only at this
              omega
            · obtain ⟨q, hq, e⟩ := List.mem_map.1 h
              have := (List.pairwise_cons.1 hsplit.2.1).1 q hq
              simp only at this
              omega
          · rw [if_neg hmi, ← hLm]
            constructor
            · rintro (h | h)
              · exact .inl h
              · exact .inr (.inr h)
            · rintro (h | h | h)
              · exact .inl h
              · exact (hmi h).elim
              · exact .inr h)
        (fun q hq => hin q (by
          rcases List.mem_append.1 hq with h | h
          · exact List.mem_append_left _ h
          · exact List.mem_append_right _ (List.mem_cons_of_mem _ h))) hpw (by simp at hf ⊢; omega) h2
      exact ⟨y :: is', .cons ho' hcomp h3, (exec_runI X y _ st stF).2 ⟨st1, h1, h4⟩⟩

theorem draw_any {P : Program} {cfg : Cfg} {n : Nat} {X : Ext} {is : List Ins} {chk : List (Nat × Nat × Nat × Nat)} {st stF : St} (hc : compInss P cfg n ops true ops.toList = some is)
    (hd : drawOk (ops.toList.map afters) is chk 0 is = true) (hb : backOk 0 (ops.toList.map afters) = true) (hchk : checks stF.fr chk = true) (hr : runI X true is st = some (.nor, stF)) {t : Nat} :
    ∃ is', Match P cfg n ops true (Region.linearise .any ops t) is' ∧ runI X true is' st = some (.nor, stF) := by
  obtain ⟨hlen, hget⟩ := compInss_get hc
  simp only [Array.length_toList] at hlen
  have hz : is = (is.zipIdx.map fun p => (p.2, p.1)).map (·.2) := by
    rw [List.map_map]
    have : ((fun p : Nat × Ins => p.2) ∘ fun p : Ins × Nat => (p.2, p.1)) = fun p => p.1 := rfl
    rw [this, List.zipIdx_map_fst]
  refine any_order hc hd hb hchk ops.size t (Array.replicate ops.size false) (is.zipIdx.map fun p => (p.2, p.1)) st (by simp) ?_ ?_ ?_ ?_ ?_ (by rw [← hz]; exact hr)
  · intro m o ho hm
    rw [Array.getD_eq_getD_getElem?] at hm
    simp only [Array.getElem?_replicate] at hm
    split at hm <;> simp at hm
  · intro m
    rw [List.map_map]
    have : ((fun p : Nat × Ins => p.1) ∘ fun p : Ins × Nat => (p.2, p.1)) = fun p => p.2 := rfl
    rw [this, List.zipIdx_map_snd, List.mem_range']
    rw [Array.getD_eq_getD_getElem?]
    simp only [Array.getElem?_replicate]
    constructor
    · rintro ⟨j, hj, rfl⟩
      refine ⟨by omega, by split <;> rfl⟩
    · rintro ⟨h1, _⟩
      exact ⟨m, by omega, by omega⟩
  · intro p hp
    obtain ⟨q, hq, rfl⟩ := List.mem_map.1 hp
    have := List.mem_zipIdx_iff_getElem?.1 hq
    exact this
  · rw [List.pairwise_map]
    have : is.zipIdx.Pairwise (fun a b => a.2 < b.2) := by
      have h := List.pairwise_lt_range' (s := 0) (n := is.length) (step := 1)
      rw [← List.zipIdx_map_snd 0 is, List.pairwise_map] at h
      exact h
    exact this
  · simp [hlen]
end
end Go.Proofs.YtapnjabhcdlhbaaGreatDoor.Ab
