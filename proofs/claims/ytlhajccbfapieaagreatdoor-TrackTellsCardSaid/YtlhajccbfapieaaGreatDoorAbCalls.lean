/- What a call is handed, and what comes back, against the model's memory. -/
import Derived.Test.YtlhajccbfapieaaGreatDoorAbOps2
namespace Go.Proofs.YtlhajccbfapieaaGreatDoor.Ab
open Go
set_option linter.unusedVariables false
set_option linter.unusedSimpArgs false
structure MapOk (c c' : Cx) (m : Nat → Option Nat) : Prop where
 stays : Stays c.w c.Fb c'.w c'.Fb
 csz : ∀ b, csize c'.w b = csize c.w b
 obj : ∀ (i j : Nat), m i = some j → c'.bs[j]? = c.bs[i]? ∧ (∀ own ty cs, c.h[i]? = some ⟨own, ty, .fix cs⟩ → ∃ own' ty' cs', c'.h[j]? = some ⟨own', ty', .fix cs'⟩) ∧
  (∀ own ty nl g sz rows, c.h[i]? = some ⟨own, ty, .arr nl g sz rows⟩ → ∃ own' ty', c'.h[j]? = some ⟨own', ty', .arr nl g sz rows⟩)
 lp : ∀ (i j : Nat), m i = some j → ∀ own ty num s caps, c.h[i]? = some ⟨own, ty, .lp num s caps⟩ → ∃ own' ty' caps', c'.h[j]? = some ⟨own', ty', .lp num s caps'⟩
section
variable {c c' : Cx} {m : Nat → Option Nat}
mutual
theorem relA_ren (M : MapOk c c' m) : ∀ (x : AV) (v : Value) (x' : AV), relA c x v → ren m x = some x' → relA c' x' v
 | .d x, v, x', h, e => by
  simp only [ren, Option.some.injEq] at e
  subst e
  simp only [relA] at h ⊢
  exact relD_stays M.stays x v h
 | .ptr i k, v, x', h, e => by
  simp only [ren, Option.map_eq_some_iff] at e
  obtain ⟨j, hj, rfl⟩ := e
  simp only [relA] at h ⊢
  obtain ⟨⟨own, ty, cs, ho⟩, b, hb, e⟩ := h
  obtain ⟨m1, m2, m3⟩ := M.obj i j hj
  exact ⟨m2 _ _ _ ho, b, by rw [m1]; exact hb, e⟩
 | .yld md num i, v, x', h, e => by
  simp only [ren, Option.map_eq_some_iff] at e
  obtain ⟨j, hj, rfl⟩ := e
  simp only [relA] at h ⊢
  obtain ⟨own, ty, s, caps, b, ho, hb, e⟩ := h
  obtain ⟨m1, m2, m3⟩ := M.obj i j hj
  obtain ⟨own', ty', caps', h1⟩ := M.lp i j hj _ _ _ _ _ ho
  exact ⟨own', ty', s, caps', b, h1, by rw [m1]; exact hb, e⟩
 | .ept i g r k, v, x', h, e => by
  simp only [ren, Option.map_eq_some_iff] at e
  obtain ⟨j, hj, rfl⟩ := e
  simp only [relA] at h ⊢
  obtain ⟨a, own, ty, nl, g', sz, rows, e, ho, hle, hcur⟩ := h
  obtain ⟨m1, m2, m3⟩ := M.obj i j hj
  obtain ⟨own', ty', ho'⟩ := m3 _ _ _ _ _ _ ho
  exact ⟨a, own', ty', nl, g', sz, rows, e, ho', hle, fun hg => by rw [m1]; exact hcur hg⟩
 | .rpt row k, v, x', h, e => by
  simp only [ren, Option.some.injEq] at e
  subst e
  simp only [relA] at h ⊢
  obtain ⟨b, o, e, hr⟩ := h
  exact ⟨b, o, e, relCells_stays M.stays row b o hr⟩
 | .osl i g lo hi, v, x', h, e => by
  simp only [ren, Option.map_eq_some_iff] at e
  obtain ⟨j, hj, rfl⟩ := e
  simp only [relA] at h ⊢
  obtain ⟨hlo, a, cap, own, ty, nl, g', sz, rows, e, ho, hle, hcur⟩ := h
  obtain ⟨m1, m2, m3⟩ := M.obj i j hj
  obtain ⟨own', ty', ho'⟩ := m3 _ _ _ _ _ _ ho
  exact ⟨hlo, a, cap, own', ty', nl, g', sz, rows, e, ho', hle, fun hg => by rw [m1]; simpa only [M.csz] using hcur hg⟩
 | .agg cs, v, x', h, e => by
  simp only [ren, Option.map_eq_some_iff] at e
  obtain ⟨cs', h1, rfl⟩ := e
  simp only [relA] at h ⊢
  obtain ⟨vs, e, hr⟩ := h
  exact ⟨vs, e, relL_ren M cs _ cs' hr h1⟩
 | .tup cs, v, x', h, e => by
  simp only [ren, Option.map_eq_some_iff] at e
  obtain ⟨cs', h1, rfl⟩ := e
  simp only [relA] at h ⊢
  obtain ⟨vs, e, hr⟩ := h
  exact ⟨vs, e, relL_ren M cs _ cs' hr h1⟩
 | .fn md f a b, v, x', h, e => by
  simp only [ren] at e
  split at e
  · rename_i a' b' ha hb
    cases e
    simp only [relA] at h ⊢
    obtain ⟨vs, us, e, h1, h2⟩ := h
    exact ⟨vs, us, e, relL_ren M a _ a' h1 ha, relL_ren M b _ b' h2 hb⟩
  · cases e
 | .ifc t x, v, x', h, e => by
  simp only [ren, Option.map_eq_some_iff] at e
  obtain ⟨y, h1, rfl⟩ := e
  simp only [relA] at h ⊢
  obtain ⟨u, e, hr⟩ := h
  exact ⟨u, e, relA_ren M x u y hr h1⟩
 | .junk, _, x', _, e => by
  simp only [ren, Option.some.injEq] at e
  subst e
  simp only [relA]
theorem relL_ren (M : MapOk c c' m) : ∀ (xs : List AV) (vs : List Value) (xs' : List AV), relL c xs vs → ren.renL m xs = some xs' → relL c' xs' vs
 | [], vs, xs', h, e => by
  simp only [ren.renL, Option.some.injEq] at e
  subst e
  simpa [relA.relL] using h
 | x :: xs, vs, xs', h, e => by
  simp only [ren.renL] at e
  split at e
  · rename_i y ys h1 h2
    cases e
    simp only [relA.relL] at h ⊢
    obtain ⟨u, us, e, k1, k2⟩ := h
    exact ⟨u, us, e, relA_ren M x u y k1 h1, relL_ren M xs us ys k2 h2⟩
  · cases e
end
mutual
theorem celly_ren : ∀ (x x' : AV), ren m x = some x' → celly x' = celly x
 | .d x, x', e => by simp only [ren, Option.some.injEq] at e; subst e; rfl
 | .ptr i k, x', e => by simp only [ren, Option.map_eq_some_iff] at e; obtain ⟨j, _, rfl⟩ := e; rfl
 | .ept i g r k, x', e => by simp only [ren, Option.map_eq_some_iff] at e; obtain ⟨j, _, rfl⟩ := e; rfl
 | .rpt r k, x', e => by simp only [ren, Option.some.injEq] at e; subst e; rfl
 | .yld md num i, x', e => by simp only [ren, Option.map_eq_some_iff] at e; obtain ⟨j, _, rfl⟩ := e; rfl
 | .osl i g lo hi, x', e => by simp only [ren, Option.map_eq_some_iff] at e; obtain ⟨j, _, rfl⟩ := e; rfl
 | .agg cs, x', e => by simp only [ren, Option.map_eq_some_iff] at e; obtain ⟨j, _, rfl⟩ := e; rfl
 | .tup cs, x', e => by simp only [ren, Option.map_eq_some_iff] at e; obtain ⟨j, _, rfl⟩ := e; rfl
 | .fn md f a b, x', e => by
  simp only [ren] at e
  split at e
  · cases e; rfl
  · cases e
 | .ifc t x, x', e => by simp only [ren, Option.map_eq_some_iff] at e; obtain ⟨j, _, rfl⟩ := e; rfl
 | .junk, x', e => by simp only [ren, Option.some.injEq] at e; subst e; rfl
end
theorem renL_get : ∀ {xs xs' : List AV}, ren.renL m xs = some xs' → xs'.length = xs.length ∧ ∀ (k : Nat) x', xs'[k]? = some x' → ∃ x, xs[k]? = some x ∧ ren m x = some x'
 | [], xs', e => by
  simp only [ren.renL, Option.some.injEq] at e
  subst e
  exact ⟨rfl, fun k x' h => by simp at h⟩
 | x :: xs, xs', e => by
  simp only [ren.renL] at e
  split at e
  · rename_i y ys h1 h2
    cases e
    obtain ⟨k1, k2⟩ := renL_get h2
    refine ⟨by simp [k1], fun k x' hk => ?_⟩
    cases k with
    | zero => simp at hk; subst hk; exact ⟨x, rfl, h1⟩
    | succ k => simpa using k2 k x' (by simpa using hk)
  · cases e
end
theorem memb_iff {i : Nat} : ∀ {l : List Nat}, memb i l = true ↔ i ∈ l
 | [] => by simp [memb]
 | j :: l => by
  simp only [memb]
  split
  · rename_i h; simp [Nat.eq_of_beq_eq_true h]
  · rename_i h
    rw [memb_iff, List.mem_cons]
    have : i ≠ j := fun e => by subst e; simp at h
    simp [this]
theorem memb_false {i : Nat} {l : List Nat} (h : memb i l = false) : i ∉ l := fun hm => by
 rw [memb_iff.2 hm] at h; cases h
theorem reach_nodup (h : Heap) : ∀ (n : Nat) (todo acc fp : List Nat), acc.Nodup → reach h n todo acc = some fp → fp.Nodup := by
 intro n
 induction n with
 | zero =>
  intro todo acc fp ha e
  cases todo with
  | nil => simp only [reach, Option.some.injEq] at e; exact e ▸ ha
  | cons i t => simp [reach] at e
 | succ n ih =>
  intro todo acc fp ha e
  cases todo with
  | nil => simp only [reach, Option.some.injEq] at e; exact e ▸ ha
  | cons i t =>
   simp only [reach] at e
   split at e
   · exact ih _ _ _ ha e
   · rename_i hm
     split at e
     · refine ih _ _ _ ?_ e
       rw [List.nodup_append]
       exact ⟨ha, by simp, fun a h1 b h2 => by simp at h2; subst h2; exact fun e => memb_false hm (e ▸ h1)⟩
     · cases e
theorem place_get {i : Nat} : ∀ {l : List Nat} {k : Nat}, place i l = some k → l[k]? = some i
 | [], k, h => by simp [place] at h
 | j :: l, k, h => by
  simp only [place] at h
  split at h
  · rename_i e; cases h; simp [Nat.eq_of_beq_eq_true e]
  · split at h
    · rename_i k' hk; cases h; simpa using place_get hk
    · cases h
theorem nodup_get {l : List Nat} (hn : l.Nodup) {j k : Nat} {i : Nat} (h1 : l[j]? = some i) (h2 : l[k]? = some i) : j = k := by
 obtain ⟨a1, a2⟩ := List.getElem?_eq_some_iff.1 h1
 obtain ⟨b1, b2⟩ := List.getElem?_eq_some_iff.1 h2
 exact (List.getElem_inj hn).1 (a2.trans b2.symm)
theorem gather_get {h : Heap} : ∀ {fp : List Nat} {g : Heap}, gather h fp = some g → g.length = fp.length ∧ ∀ (k : Nat) o, g[k]? = some o → ∃ i, fp[k]? = some i ∧ h[i]? = some o
 | [], g, e => by simp only [gather, Option.some.injEq] at e; subst e; exact ⟨rfl, fun k o h => by simp at h⟩
 | i :: fp, g, e => by
  simp only [gather] at e
  split at e
  · rename_i o l h1 h2
    cases e
    obtain ⟨k1, k2⟩ := gather_get h2
    refine ⟨by simp [k1], fun k o' hk => ?_⟩
    cases k with
    | zero => simp at hk; subst hk; exact ⟨i, rfl, h1⟩
    | succ k => simpa using k2 k o' (by simpa using hk)
  · cases e
theorem renH_get {m : Nat → Option Nat} {own : Own → Own} : ∀ {g g' : Heap}, renH m own g = some g' → g'.length = g.length ∧
 ∀ (k : Nat) o', g'[k]? = some o' → ∃ o, g[k]? = some o ∧ o'.own = own o.own ∧ o'.ty = o.ty ∧ renO m o.b = some o'.b
 | [], g', e => by simp only [renH, Option.some.injEq] at e; subst e; exact ⟨rfl, fun k o h => by simp at h⟩
 | o :: g, g', e => by
  simp only [renH] at e
  split at e
  · rename_i b l h1 h2
    cases e
    obtain ⟨k1, k2⟩ := renH_get h2
    refine ⟨by simp [k1], fun k o' hk => ?_⟩
    cases k with
    | zero => simp at hk; subst hk; exact ⟨o, rfl, rfl, rfl, h1⟩
    | succ k => simpa using k2 k o' (by simpa using hk)
  · cases e
theorem disj_iff {l : List Nat} : ∀ {r : List Nat}, disj l r = true → ∀ i ∈ r, i ∉ l
 | [], _, i, hi => by cases hi
 | j :: r, h, i, hi => by
  simp only [disj] at h
  split at h
  · cases h
  · rename_i hm
    rcases List.mem_cons.1 hi with rfl | hi
    · exact memb_false hm
    · exact disj_iff h i hi
def Cx.tell (c : Cx) (T : List Nat) : Cx := { c with Fb := fun b => c.Fb b ∧ ¬ ∃ (i q : Nat), i ∈ T ∧ c.bs[i]? = some (some (b, q)) }
theorem stays_tell (c : Cx) (T : List Nat) : Stays c.w c.Fb (c.tell T).w (c.tell T).Fb := ⟨fun b o v h hc => ⟨fun hf => h hf.1, hc⟩, fun _ _ _ _ _ => rfl⟩
section
variable {c : Cx}
theorem slOf_rel {w : World} {Fb : Nat → Prop} {nl : Bool} {sz lo hi : Nat} {rows : List (List DV)} {v : Value}
 (h : (nl = true ∧ rows = [] ∧ v = .slice none 0 0) ∨ (¬ (nl = true ∧ rows = []) ∧ relD w Fb (.sl sz ((rows.take hi).drop lo)) v)) : relD w Fb (slOf nl sz rows lo hi) v := by
 unfold slOf
 rcases h with ⟨rfl, rfl, rfl⟩ | ⟨hn, hr⟩
 · simp [relD]
 · split
   · exact absurd ⟨rfl, rfl⟩ hn
   · exact hr
theorem osl_data (ok : Ok c) {Fb' : Nat → Prop} (hFb : ∀ b, Fb' b → c.Fb b) {i g lo hi : Nat} {v : Value} (h : relA c (.osl i g lo hi) v) {own : Own} {ty : Nat} {nl : Bool} {sz : Nat} {rows : List (List DV)}
 (ho : c.h[i]? = some ⟨own, ty, .arr nl g sz rows⟩) (hb : ∀ b q, c.bs[i]? = some (some (b, q)) → ¬ Fb' b) :
 relD c.w Fb' (slOf nl sz rows lo hi) v := by
 have stays : Stays c.w c.Fb c.w Fb' := ⟨fun b o v hn hc => ⟨fun hf => hn (hFb b hf), hc⟩, fun _ _ _ _ _ => rfl⟩
 simp only [relA] at h
 obtain ⟨hlo, a, cap, _, _, _, _, _, _, rfl, ho', _, hcur⟩ := h
 rw [ho] at ho'
 cases ho'
 obtain ⟨hhi, hcur⟩ := hcur rfl
 have hlen : ((rows.take hi).drop lo).length = hi - lo := by simp; omega
 have hO := ok.obj i _ ho
 simp only [relO] at hO
 apply slOf_rel
 rcases hcur with ⟨rfl, rfl, rfl, rfl, _⟩ | ⟨b, q, hb', rfl, hcap, _⟩
 · simp at hhi
   subst hhi
   have : lo = 0 := by omega
   subst this
   exact .inl ⟨rfl, rfl, rfl⟩
 · rcases hO with ⟨_, _, hb2⟩ | ⟨hnn, b2, q2, hb2, _, _, _, _, _, hc⟩
   · rw [hb'] at hb2; cases hb2
   · rw [hb'] at hb2
     cases hb2
     refine .inr ⟨hnn, ?_⟩
     simp only [relD]
     refine ⟨⟨b, q + lo * sz, none⟩, cap, by rw [hlen], by rw [hlen]; exact hcap, .inr rfl, ?_⟩
     rw [relRows_iff]
     intro r row hr
     simp only [List.getElem?_drop, List.getElem?_take] at hr
     split at hr
     · have := hc _ row hr
       refine ⟨this.1, ?_⟩
       rw [relCells_iff]
       intro k x hk
       obtain ⟨v, h1, h2⟩ := this.2 k x hk
       refine ⟨hb b q hb', v, ?_, relD_stays stays x v h2⟩
       rwa [show q + lo * sz + r * sz + k = q + (lo + r) * sz + k by rw [Nat.add_mul]; omega]
     · cases hr
mutual
theorem deep_rel (ok : Ok c) (T : List Nat) : ∀ (x x' : AV) (l : List Nat) (v : Value), relA c x v → deep c.h x = some (x', l) → (∀ i ∈ l, i ∈ T) → relA (c.tell T) x' v
 | .d x, x', l, v, h, e, hT => by
  simp only [deep, Option.some.injEq, Prod.mk.injEq] at e
  obtain ⟨rfl, rfl⟩ := e
  simp only [relA] at h ⊢
  exact relD_stays (stays_tell c T) x v h
 | .osl i g lo hi, x', l, v, h, e, hT => by
  simp only [deep] at e
  split at e
  · rename_i own nl g' sz rows ho
    split at e
    · rename_i e1 e2
      cases e
      have e1 := Nat.eq_of_beq_eq_true e1
      subst e1
      simp only [relA]
      refine osl_data ok (fun b h => h.1) h ho fun b q hb hf => hf.2 ⟨i, q, hT i (by simp), hb⟩
    · cases e
  · cases e
 | .agg cs, x', l, v, h, e, hT => by
  simp only [deep, Option.map_eq_some_iff] at e
  obtain ⟨⟨cs', l'⟩, h1, h2⟩ := e
  simp only [Prod.mk.injEq] at h2
  obtain ⟨rfl, rfl⟩ := h2
  simp only [relA] at h ⊢
  obtain ⟨vs, e, hr⟩ := h
  exact ⟨vs, e, deepL_rel ok T cs cs' l' _ hr h1 hT⟩
 | .tup cs, x', l, v, h, e, hT => by
  simp only [deep, Option.map_eq_some_iff] at e
  obtain ⟨⟨cs', l'⟩, h1, h2⟩ := e
  simp only [Prod.mk.injEq] at h2
  obtain ⟨rfl, rfl⟩ := h2
  simp only [relA] at h ⊢
  obtain ⟨vs, e, hr⟩ := h
  exact ⟨vs, e, deepL_rel ok T cs cs' l' _ hr h1 hT⟩
 | .ifc t y, x', l, v, h, e, hT => by
  simp only [deep, Option.map_eq_some_iff] at e
  obtain ⟨⟨y', l'⟩, h1, h2⟩ := e
  simp only [Prod.mk.injEq] at h2
  obtain ⟨rfl, rfl⟩ := h2
  simp only [relA] at h ⊢
  obtain ⟨u, e, hr⟩ := h
  exact ⟨u, e, deep_rel ok T y y' l' u hr h1 hT⟩
 | .ptr i k, x', l, v, h, e, hT => by
  simp only [deep, Option.some.injEq, Prod.mk.injEq] at e
  obtain ⟨rfl, rfl⟩ := e
  simp only [relA] at h ⊢; exact h
 | .ept i g r k, x', l, v, h, e, hT => by
  simp only [deep, Option.some.injEq, Prod.mk.injEq] at e
  obtain ⟨rfl, rfl⟩ := e
  simp only [relA] at h ⊢; exact h
 | .yld md num i, x', l, v, h, e, hT => by
  simp only [deep, Option.some.injEq, Prod.mk.injEq] at e
  obtain ⟨rfl, rfl⟩ := e
  simp only [relA] at h ⊢; exact h
 | .rpt row k, x', l, v, h, e, hT => by
  simp only [deep, Option.some.injEq, Prod.mk.injEq] at e
  obtain ⟨rfl, rfl⟩ := e
  simp only [relA] at h ⊢
  obtain ⟨b, o, e, hr⟩ := h
  exact ⟨b, o, e, relCells_stays (stays_tell c T) row b o hr⟩
 | .fn md f a b, x', l, v, h, e, hT => by
  simp only [deep, Option.some.injEq, Prod.mk.injEq] at e
  obtain ⟨rfl, rfl⟩ := e
  simp only [relA] at h ⊢
  obtain ⟨vs, us, e, h1, h2⟩ := h
  exact ⟨vs, us, e, relL_tell T a _ h1, relL_tell T b _ h2⟩
 | .junk, x', l, v, h, e, hT => by
  simp only [deep, Option.some.injEq, Prod.mk.injEq] at e
  obtain ⟨rfl, rfl⟩ := e
  simp only [relA]
theorem deepL_rel (ok : Ok c) (T : List Nat) : ∀ (xs xs' : List AV) (l : List Nat) (vs : List Value), relL c xs vs → deep.deepL c.h xs = some (xs', l) → (∀ i ∈ l, i ∈ T) → relL (c.tell T) xs' vs
 | [], xs', l, vs, h, e, hT => by
  simp only [deep.deepL, Option.some.injEq, Prod.mk.injEq] at e
  obtain ⟨rfl, rfl⟩ := e
  simpa [relA.relL] using h
 | x :: xs, xs', l, vs, h, e, hT => by
  simp only [deep.deepL] at e
  split at e
  · rename_i y a ys b h1 h2
    simp only [Option.some.injEq, Prod.mk.injEq] at e
    obtain ⟨rfl, rfl⟩ := e
    simp only [relA.relL] at h ⊢
    obtain ⟨u, us, e, k1, k2⟩ := h
    exact ⟨u, us, e, deep_rel ok T x y a u k1 h1 (fun i hi => hT i (List.mem_append_left _ hi)), deepL_rel ok T xs ys b us k2 h2 (fun i hi => hT i (List.mem_append_right _ hi))⟩
  · cases e
theorem relA_tell (T : List Nat) : ∀ (x : AV) (v : Value), relA c x v → relA (c.tell T) x v
 | .d x, v, h => by simp only [relA] at h ⊢; exact relD_stays (stays_tell c T) x v h
 | .ptr i k, v, h => by simp only [relA] at h ⊢; exact h
 | .ept i g r k, v, h => by simp only [relA] at h ⊢; exact h
 | .yld md num i, v, h => by simp only [relA] at h ⊢; exact h
 | .rpt row k, v, h => by
  simp only [relA] at h ⊢
  obtain ⟨b, o, e, hr⟩ := h
  exact ⟨b, o, e, relCells_stays (stays_tell c T) row b o hr⟩
 | .osl i g lo hi, v, h => by simp only [relA] at h ⊢; exact h
 | .agg cs, v, h => by simp only [relA] at h ⊢; obtain ⟨vs, e, hr⟩ := h; exact ⟨vs, e, relL_tell T cs _ hr⟩
 | .tup cs, v, h => by simp only [relA] at h ⊢; obtain ⟨vs, e, hr⟩ := h; exact ⟨vs, e, relL_tell T cs _ hr⟩
 | .fn md f a b, v, h => by simp only [relA] at h ⊢; obtain ⟨vs, us, e, h1, h2⟩ := h; exact ⟨vs, us, e, relL_tell T a _ h1, relL_tell T b _ h2⟩
 | .ifc t y, v, h => by simp only [relA] at h ⊢; obtain ⟨u, e, hr⟩ := h; exact ⟨u, e, relA_tell T y u hr⟩
 | .junk, v, h => by simp only [relA]
theorem relL_tell (T : List Nat) : ∀ (xs : List AV) (vs : List Value), relL c xs vs → relL (c.tell T) xs vs
 | [], vs, h => by simpa [relA.relL] using h
 | x :: xs, vs, h => by
  simp only [relA.relL] at h ⊢
  obtain ⟨u, us, e, k1, k2⟩ := h
  exact ⟨u, us, e, relA_tell T x u k1, relL_tell T xs us k2⟩
end
end
def Cx.sub (c : Cx) (fp : List Nat) (g : Heap) : Cx := { c with h := g, bs := fp.map fun i => (c.bs[i]?).getD none }
section
variable {c : Cx}
theorem sub_bs (ok : c.bs.length = c.h.length) {fp : List Nat} {g : Heap} {k i : Nat} {o : Obj} (hk : fp[k]? = some i) (hi : c.h[i]? = some o) : (c.sub fp g).bs[k]? = c.bs[i]? := by
 have hl : i < c.bs.length := by rw [ok]; exact (List.getElem?_eq_some_iff.1 hi).1
 simp [Cx.sub, hk, List.getElem?_eq_getElem hl]
structure Sub (c : Cx) (own : Own → Own) (fp : List Nat) (g : Heap) : Prop where
 nodup : fp.Nodup
 len : g.length = fp.length
 obj : ∀ (k : Nat) o', g[k]? = some o' → ∃ (i : Nat) (o : Obj), fp[k]? = some i ∧ c.h[i]? = some o ∧ o'.own = own o.own ∧ o'.ty = o.ty ∧ renO (place · fp) o.b = some o'.b
theorem sub_mk {own : Own → Own} {args : List AV} {told : List Nat} {x : Handed} (h : handRest own c.h args told = some x) :
 Sub c own x.fp x.h ∧ ren.renL (place · x.fp) args = some x.args ∧ x.told = told ∧ ∀ i ∈ told, i ∉ x.fp := by
 unfold handRest at h
 split at h
 · rename_i fp hfp
   split at h
   · rename_i g a hd hg ha
     split at h
     · rename_i g' hg'
       cases h
       obtain ⟨k1, k2⟩ := gather_get hg
       obtain ⟨l1, l2⟩ := renH_get hg'
       refine ⟨⟨reach_nodup _ _ _ _ _ List.nodup_nil hfp, by rw [l1, k1], fun k o' hk => ?_⟩, ha, rfl, disj_iff hd⟩
       obtain ⟨o, h1, h2, h2', h3⟩ := l2 k o' hk
       obtain ⟨i, h4, h5⟩ := k2 k o h1
       exact ⟨i, o, h4, h5, h2, h2', h3⟩
     · cases h
   · cases h
 · cases h
theorem renO_fix {m : Nat → Option Nat} {cs : List AV} {b : OB} (h : renO m (.fix cs) = some b) : ∃ cs', b = .fix cs' ∧ ren.renL m cs = some cs' := by
 simp only [renO, Option.map_eq_some_iff] at h
 obtain ⟨cs', h1, rfl⟩ := h
 exact ⟨cs', rfl, h1⟩
theorem renO_lp {m : Nat → Option Nat} {num s : Nat} {cs : List AV} {b : OB} (h : renO m (.lp num s cs) = some b) : ∃ cs', b = .lp num s cs' ∧ ren.renL m cs = some cs' := by
 simp only [renO, Option.map_eq_some_iff] at h
 obtain ⟨cs', h1, rfl⟩ := h
 exact ⟨cs', rfl, h1⟩
theorem renO_arr {m : Nat → Option Nat} {nl : Bool} {g sz : Nat} {rows : List (List DV)} {b : OB} (h : renO m (.arr nl g sz rows) = some b) : b = .arr nl g sz rows := by
 simp only [renO, Option.some.injEq] at h
 exact h.symm
theorem Sub.map (ok : Ok c) {own : Own → Own} {fp : List Nat} {g : Heap} (S : Sub c own fp g) {c0 : Cx} (hw : c0.w = c.w) (hh : c0.h = c.h) (hbs : c0.bs = c.bs) (hFb : ∀ b, c0.Fb b → c.Fb b) :
 MapOk c (c0.sub fp g) (place · fp) where
 stays := ⟨fun b o v hn hc => ⟨fun hf => hn (hFb b hf), by simpa [Cx.sub, hw] using hc⟩, fun _ _ _ _ _ => by simp [Cx.sub, hw]⟩
 csz b := by simp [Cx.sub, hw]
 obj i j hj := by
  have hk := place_get hj
  have hjl : j < g.length := by rw [S.len]; exact (List.getElem?_eq_some_iff.1 hk).1
  obtain ⟨i', o, h1, h2, h3, hty, h4⟩ := S.obj j g[j] (List.getElem?_eq_getElem hjl)
  rw [hk] at h1
  cases h1
  refine ⟨?_, fun own0 ty0 cs ho => ?_, fun own0 ty0 nl g0 sz rows ho => ?_⟩
  · have hl : i < c.bs.length := by rw [ok.len]; exact (List.getElem?_eq_some_iff.1 h2).1
    simp [Cx.sub, hk, hbs, List.getElem?_eq_getElem hl]
  · rw [h2] at ho
    cases ho
    obtain ⟨cs', e1, _⟩ := renO_fix h4
    exact ⟨g[j].own, g[j].ty, cs', by simp only [Cx.sub]; rw [List.getElem?_eq_getElem hjl, ← e1]⟩
  · rw [h2] at ho
    cases ho
    have e1 := renO_arr h4
    exact ⟨g[j].own, g[j].ty, by simp only [Cx.sub]; rw [List.getElem?_eq_getElem hjl, ← e1]⟩
 lp i j hj own0 ty0 num s caps ho := by
  have hk := place_get hj
  have hjl : j < g.length := by rw [S.len]; exact (List.getElem?_eq_some_iff.1 hk).1
  obtain ⟨i', o, h1, h2, h3, hty, h4⟩ := S.obj j g[j] (List.getElem?_eq_getElem hjl)
  rw [hk] at h1
  cases h1
  rw [h2] at ho
  cases ho
  obtain ⟨cs', e1, _⟩ := renO_lp h4
  exact ⟨g[j].own, g[j].ty, cs', by simp only [Cx.sub]; rw [List.getElem?_eq_getElem hjl, ← e1]⟩
theorem Sub.ok (ok : Ok c) {own : Own → Own} {fp : List Nat} {g : Heap} (S : Sub c own fp g) {T : List Nat} (hT : ∀ i ∈ T, i ∉ fp)
 (hown : ∀ o, (own o ≠ .frozen ↔ o ≠ .frozen)) : Ok ((c.tell T).sub fp g) where
 len := by simp [Cx.sub, S.len]
 apart i j b q q' hi hj := by
  have key : ∀ (k b q : Nat), ((c.tell T).sub fp g).bs[k]? = some (some (b, q)) → ∃ i, fp[k]? = some i ∧ c.bs[i]? = some (some (b, q)) := by
   intro k b q hk
   simp only [Cx.sub, Cx.tell, List.getElem?_map, Option.map_eq_some_iff] at hk
   obtain ⟨i, h1, h2⟩ := hk
   refine ⟨i, h1, ?_⟩
   cases hb : c.bs[i]? with
   | none => rw [hb] at h2; cases h2
   | some x => rw [hb] at h2; simp at h2; rw [h2]
  obtain ⟨i', a1, a2⟩ := key i b q hi
  obtain ⟨j', b1, b2⟩ := key j b q' hj
  have := ok.apart i' j' b q q' a2 b2
  subst this
  exact nodup_get S.nodup a1 b1
 fbs b h := ok.fbs b h.1
 obj k o' hk := by
  obtain ⟨i, o, h1, h2, h3, hty, h4⟩ := S.obj k o' hk
  have M := S.map ok (c0 := c.tell T) rfl rfl rfl (fun b h => h.1)
  have hbs : ((c.tell T).sub fp g).bs[k]? = c.bs[i]? := sub_bs (c := c.tell T) ok.len h1 h2
  have hO := ok.obj i o h2
  have hfb : ∀ (b q : Nat), c.bs[i]? = some (some (b, q)) → c.Fb b → ((c.tell T).sub fp g).Fb b := fun b q hb hf => ⟨hf, fun ⟨j, q', hj, hb'⟩ => by
   have := ok.apart i j b q q' hb hb'
   subst this
   exact hT i hj (List.mem_of_getElem? h1)⟩
  unfold relO at hO ⊢
  cases hob : o.b with
  | fix cs =>
   rw [hob] at h4
   obtain ⟨cs', e1, e2⟩ := renO_fix h4
   simp only [hob] at hO
   simp only [e1]
   obtain ⟨l1, l2⟩ := renL_get e2
   obtain ⟨b, hb, hic, hsz, hfz, hf, hf', hc⟩ := hO
   refine ⟨b, by rw [hbs]; exact hb, by rw [hty]; exact hic, by rw [l1]; exact hsz, fun k hk => hfz k (by rwa [l1] at hk), fun hn => hfb b 0 hb (hf ((hown _).1 (by rw [← h3]; exact hn))), fun hn hff => ?_, fun k x hk => ?_⟩
   · refine hf' ?_ hff.1
     rcases Classical.em (o.own = .frozen) with e | e
     · exact e
     · exact absurd hn (by rw [h3]; exact (hown _).2 e)
   · obtain ⟨y, hy, hr⟩ := l2 k x hk
     obtain ⟨a1, v, a2, a3⟩ := hc k y hy
     exact ⟨by rw [celly_ren _ _ hr]; exact a1, v, a2, relA_ren M y v x a3 hr⟩
  | lp num s caps =>
   rw [hob] at h4
   obtain ⟨cs', e1, e2⟩ := renO_lp h4
   simp only [hob] at hO
   simp only [e1]
   obtain ⟨b, hb, hlt, hf, vs, hr, hl⟩ := hO
   exact ⟨b, by rw [hbs]; exact hb, hlt, fun hn => hfb b 0 hb (hf ((hown _).1 (by rw [← h3]; exact hn))), vs, relL_ren M _ _ _ hr e2, hl⟩
  | arr nl gg sz rows =>
   rw [hob] at h4
   have e1 := renO_arr h4
   simp only [hob] at hO
   simp only [e1]
   rcases hO with ⟨a1, a2, a3⟩ | ⟨hnn, b, q, hb, hic, hsz, hfz, hf, hf', hc⟩
   · exact .inl ⟨a1, a2, by rw [hbs]; exact a3⟩
   · refine .inr ⟨hnn, b, q, by rw [hbs]; exact hb, by rw [hty]; exact hic, hsz, hfz, fun hn => hfb b q hb (hf ((hown _).1 (by rw [← h3]; exact hn))), fun hn hff => ?_, fun r row hr => ⟨(hc r row hr).1, fun k x hk => ?_⟩⟩
     · refine hf' ?_ hff.1
       rcases Classical.em (o.own = .frozen) with e | e
       · exact e
       · exact absurd hn (by rw [h3]; exact (hown _).2 e)
     · obtain ⟨v, a2, a3⟩ := (hc r row hr).2 k x hk
       exact ⟨v, a2, relD_stays M.stays x v a3⟩
end
section
variable {c c1 : Cx}
structure Left (n : Nat) (c c1 : Cx) : Prop where
 w : c1.w = c.w
 fb : ∀ b, c1.Fb b → c.Fb b
 own : ∀ (i b q : Nat) own ty nl g sz rows, n ≤ i → c.h[i]? = some ⟨own, ty, .arr nl g sz rows⟩ → own ≠ .lent → c.bs[i]? = some (some (b, q)) → ¬ c1.Fb b
 bs : ∀ i, i < n → c1.bs[i]? = c.bs[i]?
 fix : ∀ (i : Nat) own ty cs, i < n → c.h[i]? = some ⟨own, ty, .fix cs⟩ → ∃ own' ty' cs', c1.h[i]? = some ⟨own', ty', .fix cs'⟩
 arr : ∀ (i : Nat) own ty nl g sz rows, i < n → c.h[i]? = some ⟨own, ty, .arr nl g sz rows⟩ → ∃ own' ty', c1.h[i]? = some ⟨own', ty', .arr nl g sz rows⟩
 lp : ∀ (i : Nat) own ty num s caps, i < n → c.h[i]? = some ⟨own, ty, .lp num s caps⟩ → ∃ own' ty' caps', c1.h[i]? = some ⟨own', ty', .lp num s caps'⟩
theorem Left.stays {n : Nat} (L : Left n c c1) : Stays c.w c.Fb c1.w c1.Fb := ⟨fun b o v hn hc => ⟨fun hf => hn (L.fb b hf), by rw [L.w]; exact hc⟩, fun _ _ _ _ _ => by rw [L.w]⟩
mutual
theorem deepOwn_rel {n : Nat} (ok : Ok c) (L : Left n c c1) : ∀ (x x' : AV) (v : Value), relA c x v → deepOwn n c.h x = some x' → relA c1 x' v
 | .d x, x', v, h, e => by
  simp only [deepOwn, Option.some.injEq] at e
  subst e
  simp only [relA] at h ⊢
  exact relD_stays L.stays x v h
 | .osl i g lo hi, x', v, h, e => by
  simp only [deepOwn] at e
  split at e
  · rename_i hlt
    have hlt : i < n := by simpa [Nat.blt_eq] using hlt
    cases e
    simp only [relA] at h ⊢
    obtain ⟨hlo, a, cap, own, ty, nl, g', sz, rows, e, ho, hle, hcur⟩ := h
    obtain ⟨own', ty', ho'⟩ := L.arr i _ _ _ _ _ _ hlt ho
    exact ⟨hlo, a, cap, own', ty', nl, g', sz, rows, e, ho', hle, fun hg => by rw [L.bs i hlt, L.w]; exact hcur hg⟩
  · rename_i hge
    have hge : n ≤ i := by
     rcases Nat.lt_or_ge i n with h1 | h1
     · have : Nat.blt i n = true := by simpa [Nat.blt_eq] using h1
       rw [this] at hge; cases hge
     · exact h1
    simp only [Option.map_eq_some_iff] at e
    obtain ⟨⟨y, l⟩, e1, rfl⟩ := e
    simp only [deep] at e1
    split at e1
    · rename_i own nl g' sz rows ho
      split at e1
      · rename_i e2 e3
        cases e1
        have e2 := Nat.eq_of_beq_eq_true e2
        subst e2
        simp only [relA]
        rw [L.w]
        exact osl_data ok L.fb h ho fun b q hb => L.own i b q _ _ _ _ _ _ hge ho (by simpa using e3) hb
      · cases e1
    · cases e1
 | .ptr i k, x', v, h, e => by
  simp only [deepOwn] at e
  split at e
  · rename_i hlt
    have hlt : i < n := by simpa [Nat.blt_eq] using hlt
    cases e
    simp only [relA] at h ⊢
    obtain ⟨⟨own, ty, cs, ho⟩, b, hb, e⟩ := h
    exact ⟨L.fix i _ _ _ hlt ho, b, by rw [L.bs i hlt]; exact hb, e⟩
  · cases e
 | .yld md num i, x', v, h, e => by
  simp only [deepOwn] at e
  split at e
  · rename_i hlt
    have hlt : i < n := by simpa [Nat.blt_eq] using hlt
    cases e
    simp only [relA] at h ⊢
    obtain ⟨own, ty, s, caps, b, ho, hb, e⟩ := h
    obtain ⟨own', ty', caps', ho'⟩ := L.lp i _ _ _ _ _ hlt ho
    exact ⟨own', ty', s, caps', b, ho', by rw [L.bs i hlt]; exact hb, e⟩
  · cases e
 | .ept i g r k, x', v, h, e => by
  simp only [deepOwn] at e
  split at e
  · rename_i hlt
    have hlt : i < n := by simpa [Nat.blt_eq] using hlt
    cases e
    simp only [relA] at h ⊢
    obtain ⟨a, own, ty, nl, g', sz, rows, e, ho, hle, hcur⟩ := h
    obtain ⟨own', ty', ho'⟩ := L.arr i _ _ _ _ _ _ hlt ho
    exact ⟨a, own', ty', nl, g', sz, rows, e, ho', hle, fun hg => by rw [L.bs i hlt]; exact hcur hg⟩
  · cases e
 | .rpt row k, x', v, h, e => by
  simp only [deepOwn, Option.some.injEq] at e
  subst e
  simp only [relA] at h ⊢
  obtain ⟨b, o, e, hr⟩ := h
  exact ⟨b, o, e, relCells_stays L.stays row b o hr⟩
 | .agg cs, x', v, h, e => by
  simp only [deepOwn, Option.map_eq_some_iff] at e
  obtain ⟨cs', h1, rfl⟩ := e
  simp only [relA] at h ⊢
  obtain ⟨vs, e, hr⟩ := h
  exact ⟨vs, e, deepOwnL_rel ok L cs cs' _ hr h1⟩
 | .tup cs, x', v, h, e => by
  simp only [deepOwn, Option.map_eq_some_iff] at e
  obtain ⟨cs', h1, rfl⟩ := e
  simp only [relA] at h ⊢
  obtain ⟨vs, e, hr⟩ := h
  exact ⟨vs, e, deepOwnL_rel ok L cs cs' _ hr h1⟩
 | .fn md f a b, x', v, h, e => by
  simp only [deepOwn] at e
  split at e
  · rename_i a' b' ha hb
    cases e
    simp only [relA] at h ⊢
    obtain ⟨vs, us, e, h1, h2⟩ := h
    exact ⟨vs, us, e, deepOwnL_rel ok L a a' _ h1 ha, deepOwnL_rel ok L b b' _ h2 hb⟩
  · cases e
 | .ifc t y, x', v, h, e => by
  simp only [deepOwn, Option.map_eq_some_iff] at e
  obtain ⟨y', h1, rfl⟩ := e
  simp only [relA] at h ⊢
  obtain ⟨u, e, hr⟩ := h
  exact ⟨u, e, deepOwn_rel ok L y y' u hr h1⟩
 | .junk, x', v, h, e => by
  simp only [deepOwn, Option.some.injEq] at e
  subst e
  simp only [relA]
theorem deepOwnL_rel {n : Nat} (ok : Ok c) (L : Left n c c1) : ∀ (xs xs' : List AV) (vs : List Value), relL c xs vs → deepOwn.deepOwnL n c.h xs = some xs' → relL c1 xs' vs
 | [], xs', vs, h, e => by
  simp only [deepOwn.deepOwnL, Option.some.injEq] at e
  subst e
  simpa [relA.relL] using h
 | x :: xs, xs', vs, h, e => by
  simp only [deepOwn.deepOwnL] at e
  split at e
  · rename_i y ys h1 h2
    cases e
    simp only [relA.relL] at h ⊢
    obtain ⟨u, us, e, k1, k2⟩ := h
    exact ⟨u, us, e, deepOwn_rel ok L x y u k1 h1, deepOwnL_rel ok L xs ys us k2 h2⟩
  · cases e
end
/- Plain data without a slice reads the same everywhere. -/
mutual
theorem loose_rel {c' : Cx} : ∀ (x : AV) (v : Value), loose x = true → relA c x v → relA c' x v
 | .d x, v, h, hr => by
  simp only [relA] at hr ⊢
  cases x <;> simp only [relD] at hr ⊢ <;> first | exact hr | simp [loose] at h
 | .agg cs, v, h, hr => by
  simp only [loose] at h
  simp only [relA] at hr ⊢
  obtain ⟨vs, e, hr⟩ := hr
  exact ⟨vs, e, looseL_rel cs _ h hr⟩
 | .tup cs, v, h, hr => by
  simp only [loose] at h
  simp only [relA] at hr ⊢
  obtain ⟨vs, e, hr⟩ := hr
  exact ⟨vs, e, looseL_rel cs _ h hr⟩
 | .ifc t y, v, h, hr => by
  simp only [loose] at h
  simp only [relA] at hr ⊢
  obtain ⟨u, e, hr⟩ := hr
  exact ⟨u, e, loose_rel y u h hr⟩
 | .ptr .., _, h, _ | .ept .., _, h, _ | .rpt .., _, h, _ | .osl .., _, h, _ | .fn .., _, h, _ | .yld .., _, h, _ | .junk, _, h, _ => by simp [loose] at h
theorem looseL_rel {c' : Cx} : ∀ (xs : List AV) (vs : List Value), loose.looseL xs = true → relL c xs vs → relL c' xs vs
 | [], vs, _, h => by simpa [relA.relL] using h
 | x :: xs, vs, h, hr => by
  simp only [loose.looseL, Bool.and_eq_true] at h
  simp only [relA.relL] at hr ⊢
  obtain ⟨u, us, e, k1, k2⟩ := hr
  exact ⟨u, us, e, loose_rel x u h.1 k1, looseL_rel xs us h.2 k2⟩
end
/- What is told whole has no reference left. -/
mutual
theorem deepOwn_noref {h : Heap} {m : Nat → Option Nat} : ∀ (x x' : AV), deepOwn 0 h x = some x' → ren m x' = some x'
 | .d x, x', e => by simp only [deepOwn, Option.some.injEq] at e; subst e; rfl
 | .osl i g lo hi, x', e => by
  simp only [deepOwn, Nat.blt, Nat.ble, Nat.succ_eq_add_one] at e
  simp only [Option.map_eq_some_iff] at e
  obtain ⟨⟨y, l⟩, e1, rfl⟩ := e
  simp only [deep] at e1
  split at e1
  · split at e1
    · cases e1; rfl
    · cases e1
  · cases e1
 | .ptr i k, x', e => by simp [deepOwn, Nat.blt, Nat.ble] at e
 | .ept i g r k, x', e => by simp [deepOwn, Nat.blt, Nat.ble] at e
 | .yld md num i, x', e => by simp [deepOwn, Nat.blt, Nat.ble] at e
 | .rpt row k, x', e => by simp only [deepOwn, Option.some.injEq] at e; subst e; rfl
 | .agg cs, x', e => by
  simp only [deepOwn, Option.map_eq_some_iff] at e
  obtain ⟨cs', h1, rfl⟩ := e
  simp only [ren, deepOwnL_noref cs cs' h1, Option.map_some]
 | .tup cs, x', e => by
  simp only [deepOwn, Option.map_eq_some_iff] at e
  obtain ⟨cs', h1, rfl⟩ := e
  simp only [ren, deepOwnL_noref cs cs' h1, Option.map_some]
 | .fn md f a b, x', e => by
  simp only [deepOwn] at e
  split at e
  · rename_i a' b' ha hb
    cases e
    simp only [ren, deepOwnL_noref a a' ha, deepOwnL_noref b b' hb]
  · cases e
 | .ifc t y, x', e => by
  simp only [deepOwn, Option.map_eq_some_iff] at e
  obtain ⟨y', h1, rfl⟩ := e
  simp only [ren, deepOwn_noref y y' h1, Option.map_some]
 | .junk, x', e => by simp only [deepOwn, Option.some.injEq] at e; subst e; rfl
theorem deepOwnL_noref {h : Heap} {m : Nat → Option Nat} : ∀ (xs xs' : List AV), deepOwn.deepOwnL 0 h xs = some xs' → ren.renL m xs' = some xs'
 | [], xs', e => by simp only [deepOwn.deepOwnL, Option.some.injEq] at e; subst e; rfl
 | x :: xs, xs', e => by
  simp only [deepOwn.deepOwnL] at e
  split at e
  · rename_i y ys h1 h2
    cases e
    simp only [ren.renL, deepOwn_noref x y h1, deepOwnL_noref xs ys h2]
  · cases e
end
theorem freeze_get (T : List Nat) : ∀ (h : Heap) (i : Nat), (i ∉ T → (freeze h T)[i]? = h[i]?) ∧ (i ∈ T → (freeze h T)[i]? = (h[i]?).map fun o => ⟨.frozen, o.ty, o.b⟩) := by
 induction T with
 | nil => intro h i; exact ⟨fun _ => rfl, fun h => by cases h⟩
 | cons j T ih =>
  intro h i
  simp only [freeze]
  split
  · rename_i o ho
    have := ih (h.set j ⟨.frozen, o.ty, o.b⟩) i
    refine ⟨fun hn => ?_, fun hm => ?_⟩
    · rw [this.1 (fun h => hn (List.mem_cons_of_mem _ h)), List.getElem?_set_ne (fun e => hn (by subst e; exact List.mem_cons_self))]
    · by_cases hT : i ∈ T
      · rw [this.2 hT]
        by_cases e : j = i
        · subst e
          rw [List.getElem?_set_self (List.getElem?_eq_some_iff.1 ho).1, ho]; rfl
        · rw [List.getElem?_set_ne e]
      · rw [this.1 hT]
        rcases List.mem_cons.1 hm with rfl | h
        · rw [List.getElem?_set_self (List.getElem?_eq_some_iff.1 ho).1, ho]; rfl
        · exact absurd h hT
  · rename_i ho
    have := ih h i
    refine ⟨fun hn => this.1 (fun h => hn (List.mem_cons_of_mem _ h)), fun hm => ?_⟩
    rcases List.mem_cons.1 hm with rfl | h1
    · by_cases hT : i ∈ T
      · exact this.2 hT
      · rw [this.1 hT, ho]; rfl
    · exact this.2 h1
def Tellable (h : Heap) (i : Nat) : Prop := ∃ own ty nl g sz rows, h[i]? = some ⟨own, ty, .arr nl g sz rows⟩ ∧ own ≠ .lent
mutual
theorem deep_told {h : Heap} : ∀ (x x' : AV) (l : List Nat), deep h x = some (x', l) → ∀ i ∈ l, Tellable h i
 | .d x, x', l, e, i, hi => by simp only [deep, Option.some.injEq, Prod.mk.injEq] at e; rw [← e.2] at hi; cases hi
 | .osl j g lo hi', x', l, e, i, hi => by
  simp only [deep] at e
  split at e
  · rename_i own ty nl g' sz rows ho
    split at e
    · rename_i e1 e2
      cases e
      simp only [List.mem_singleton] at hi
      subst hi
      exact ⟨own, ty, nl, g', sz, rows, ho, by simpa using e2⟩
    · cases e
  · cases e
 | .agg cs, x', l, e, i, hi => by
  simp only [deep, Option.map_eq_some_iff] at e
  obtain ⟨⟨cs', l'⟩, h1, h2⟩ := e
  simp only [Prod.mk.injEq] at h2
  obtain ⟨rfl, rfl⟩ := h2
  exact deepL_told cs cs' l' h1 i hi
 | .tup cs, x', l, e, i, hi => by
  simp only [deep, Option.map_eq_some_iff] at e
  obtain ⟨⟨cs', l'⟩, h1, h2⟩ := e
  simp only [Prod.mk.injEq] at h2
  obtain ⟨rfl, rfl⟩ := h2
  exact deepL_told cs cs' l' h1 i hi
 | .ifc t y, x', l, e, i, hi => by
  simp only [deep, Option.map_eq_some_iff] at e
  obtain ⟨⟨cs', l'⟩, h1, h2⟩ := e
  simp only [Prod.mk.injEq] at h2
  obtain ⟨rfl, rfl⟩ := h2
  exact deep_told y cs' l' h1 i hi
 | .ptr .., x', l, e, i, hi | .ept .., x', l, e, i, hi | .rpt .., x', l, e, i, hi | .fn .., x', l, e, i, hi | .yld .., x', l, e, i, hi | .junk, x', l, e, i, hi => by
  simp only [deep, Option.some.injEq, Prod.mk.injEq] at e; rw [← e.2] at hi; cases hi
theorem deepL_told {h : Heap} : ∀ (xs xs' : List AV) (l : List Nat), deep.deepL h xs = some (xs', l) → ∀ i ∈ l, Tellable h i
 | [], xs', l, e, i, hi => by simp only [deep.deepL, Option.some.injEq, Prod.mk.injEq] at e; rw [← e.2] at hi; cases hi
 | x :: xs, xs', l, e, i, hi => by
  simp only [deep.deepL] at e
  split at e
  · rename_i y a ys b h1 h2
    simp only [Option.some.injEq, Prod.mk.injEq] at e
    obtain ⟨rfl, rfl⟩ := e
    rcases List.mem_append.1 hi with hi | hi
    · exact deep_told x y a h1 i hi
    · exact deepL_told xs ys b h2 i hi
  · cases e
end
theorem pure_ctx (ok : Ok c) {w' : World} {T : List Nat} (hT : ∀ i ∈ T, Tellable c.h i) (h1 : w'.os = c.w.os) (h2 : w'.tape = c.w.tape) (h3 : w'.output = c.w.output) (h4 : c.w.heap.size ≤ w'.heap.size)
 (h5 : ∀ b, b < c.w.heap.size → w'.heap[b]? = c.w.heap[b]?) :
 Ok { w := w', Fb := (c.tell T).Fb, h := freeze c.h T, bs := c.bs } ∧ Goes c { w := w', Fb := (c.tell T).Fb, h := freeze c.h T, bs := c.bs } := by
 have G : Goes c { w := w', Fb := (c.tell T).Fb, h := freeze c.h T, bs := c.bs } := by
  refine ⟨h1, h2, h3, h4, fun b hb _ => h5 b hb, fun b hb hw => ?_, fun b _ h => h.1, fun b hb hn => ⟨hb, fun ⟨i, q, hi, hbs⟩ => ?_⟩, fun _ _ _ h => .inl h, fun i o ho => ?_⟩
  · obtain ⟨i, q, ty, x, e1, e2⟩ := hw
    by_cases hi : i ∈ T
    · rw [(freeze_get T c.h i).2 hi] at e1
      cases hh : c.h[i]? with
      | none => rw [hh] at e1; cases e1
      | some o => rw [hh] at e1; simp at e1
    · rw [(freeze_get T c.h i).1 hi] at e1
      exact ⟨i, q, ty, x, e1, e2⟩
  · obtain ⟨own, ty, nl, g, sz, rows, ho, hl⟩ := hT i hi
    cases own with
    | mine => exact hn ⟨i, q, _, _, ho, hbs⟩
    | lent => exact hl rfl
    | frozen =>
     have := ok.obj i _ ho
     simp only [relO] at this
     rcases this with ⟨_, _, e⟩ | ⟨_, b', q', e, _, _, _, _, hf, _⟩
     · rw [hbs] at e; cases e
     · rw [hbs] at e; cases e; exact hf trivial hb
  · have hcs : ∀ b q, c.bs[i]? = some (some (b, q)) → csize w' b = csize c.w b := fun b q hb => csize_heap (h5 b (ok.block_lt hb))
    have hgo : o.b.goes c.w w' c.bs[i]? c.bs[i]? o.b := by
     cases o.b with
     | fix => simp [OB.goes]
     | lp => simp [OB.goes]
     | arr => simp only [OB.goes, Nat.le_refl, true_and, forall_const]; exact hcs
    by_cases hi : i ∈ T
    · obtain ⟨own, ty, nl, g, sz, rows, ho', hl⟩ := hT i hi
      rw [ho] at ho'
      cases ho'
      refine ⟨⟨.frozen, ty, .arr nl g sz rows⟩, by rw [(freeze_get T c.h i).2 hi, ho]; rfl, ?_, hgo⟩
      cases own with
      | mine => exact .inr ⟨rfl, rfl⟩
      | lent => exact absurd rfl hl
      | frozen => exact .inl rfl
    · exact ⟨o, by rw [(freeze_get T c.h i).1 hi]; exact ho, .inl rfl, hgo⟩
 refine ⟨⟨?_, ok.apart, fun b h => Nat.lt_of_lt_of_le (ok.fbs b h.1) h4, fun i o ho => ?_⟩, G⟩
 · have : (freeze c.h T).length = c.h.length := by
    have hle : ∀ (T : List Nat) (h : Heap), (freeze h T).length = h.length := by
     intro T
     induction T with
     | nil => intro h; rfl
     | cons j T ih => intro h; simp only [freeze]; split <;> simp [ih]
    exact hle T c.h
   simp only [this]
   exact ok.len
 · by_cases hi : i ∈ T
   · obtain ⟨own, ty, nl, g, sz, rows, ho', hl⟩ := hT i hi
     simp only at ho
     rw [(freeze_get T c.h i).2 hi, ho'] at ho
     cases ho
     have hO := ok.obj i _ ho'
     simp only [relO] at hO ⊢
     rcases hO with ⟨a1, a2, a3⟩ | ⟨hnn, b, q, hb, ⟨x, fz, hic⟩, hsz, hfz, hf, hf', hc⟩
     · exact .inl ⟨a1, a2, a3⟩
     · have hB := h5 b (ok.block_lt hb)
       refine .inr ⟨hnn, b, q, hb, ⟨x, fz, hB.trans hic⟩, by rw [csize_heap hB]; exact hsz, fun k hk => by rw [frozen_heap hB]; rw [csize_heap hB] at hk; exact hfz k hk, fun h => absurd rfl h, fun _ hff => hff.2 ⟨i, q, hi, hb⟩, fun r row hr => ⟨(hc r row hr).1, fun k x hk => ?_⟩⟩
       obtain ⟨v, b1, b2⟩ := (hc r row hr).2 k x hk
       exact ⟨v, by rw [cel_heap hB]; exact b1, relD_stays (G.stays ok) x v b2⟩
   · simp only at ho
     rw [(freeze_get T c.h i).1 hi] at ho
     refine relO_goes G ok (ok.obj i o ho) rfl (fun b q hb => h5 b (ok.block_lt hb)) fun b q hb => ⟨fun h => h.1, fun h => ⟨h, fun ⟨j, q', hj, hb'⟩ => ?_⟩⟩
     have := ok.apart i j b q q' hb hb'
     subst this
     exact hi hj
structure Same (c c' : Cx) : Prop where
 w : c'.w = c.w
 bs : c'.bs = c.bs
 fb : ∀ b, c'.Fb b ↔ c.Fb b
 obj : ∀ (i : Nat) o, c.h[i]? = some o → ∃ own, c'.h[i]? = some ⟨own, o.ty, o.b⟩
theorem Same.stays {c c' : Cx} (S : Same c c') : Stays c.w c.Fb c'.w c'.Fb := ⟨fun b o v hn hc => ⟨fun h => hn ((S.fb b).1 h), by rw [S.w]; exact hc⟩, fun _ _ _ _ _ => by rw [S.w]⟩
section
variable {c c' : Cx}
mutual
theorem relA_same (S : Same c c') : ∀ (x : AV) (v : Value), relA c x v → relA c' x v
 | .d x, v, h => by
  simp only [relA] at h ⊢
  exact relD_stays S.stays x v h
 | .ptr i k, v, h => by
  simp only [relA] at h ⊢
  obtain ⟨⟨own, ty, cs, ho⟩, b, hb, e⟩ := h
  obtain ⟨own', h1⟩ := S.obj i _ ho
  exact ⟨⟨own', ty, cs, h1⟩, b, by rw [S.bs]; exact hb, e⟩
 | .yld md num i, v, h => by
  simp only [relA] at h ⊢
  obtain ⟨own, ty, s, caps, b, ho, hb, e⟩ := h
  obtain ⟨own', h1⟩ := S.obj i _ ho
  exact ⟨own', ty, s, caps, b, h1, by rw [S.bs]; exact hb, e⟩
 | .ept i gg r k, v, h => by
  simp only [relA] at h ⊢
  obtain ⟨a, own, ty, nl, g1, sz, rows, e, ho, hle, hh⟩ := h
  obtain ⟨own', h1⟩ := S.obj i _ ho
  exact ⟨a, own', ty, nl, g1, sz, rows, e, h1, hle, by rw [S.bs]; exact hh⟩
 | .rpt row k, v, h => by
  simp only [relA] at h ⊢
  obtain ⟨b, o, e, hr⟩ := h
  exact ⟨b, o, e, relCells_stays S.stays row b o hr⟩
 | .osl i gg lo hi, v, h => by
  simp only [relA] at h ⊢
  obtain ⟨hlo, a, cap, own, ty, nl, g1, sz, rows, e, ho, hle, hh⟩ := h
  obtain ⟨own', h1⟩ := S.obj i _ ho
  exact ⟨hlo, a, cap, own', ty, nl, g1, sz, rows, e, h1, hle, by rw [S.bs, S.w]; exact hh⟩
 | .agg cs, v, h => by
  simp only [relA] at h ⊢
  obtain ⟨vs, e, hr⟩ := h
  exact ⟨vs, e, relL_same S cs _ hr⟩
 | .tup cs, v, h => by
  simp only [relA] at h ⊢
  obtain ⟨vs, e, hr⟩ := h
  exact ⟨vs, e, relL_same S cs _ hr⟩
 | .fn _ f a b, v, h => by
  simp only [relA] at h ⊢
  obtain ⟨vs, us, e, h1, h2⟩ := h
  exact ⟨vs, us, e, relL_same S a _ h1, relL_same S b _ h2⟩
 | .ifc t x, v, h => by
  simp only [relA] at h ⊢
  obtain ⟨u, e, hr⟩ := h
  exact ⟨u, e, relA_same S x u hr⟩
 | .junk, _, _ => by simp only [relA]
theorem relL_same (S : Same c c') : ∀ (xs : List AV) (vs : List Value), relL c xs vs → relL c' xs vs
 | [], vs, h => by simpa [relA.relL] using h
 | x :: xs, vs, h => by
  simp only [relA.relL] at h ⊢
  obtain ⟨u, us, e, h1, h2⟩ := h
  exact ⟨u, us, e, relA_same S x u h1, relL_same S xs us h2⟩
end
end
theorem tell_ctx (ok : Ok c) {xs ys : List AV} {l : List Nat} {vs : List Value} (hx : relL c xs vs) (hd : deep.deepL c.h xs = some (ys, l)) :
 ∃ ct, ct.w = c.w ∧ ct.h = freeze c.h l ∧ Ok ct ∧ Goes c ct ∧ relL ct ys vs := by
 obtain ⟨o, G⟩ := pure_ctx ok (w' := c.w) (deepL_told xs ys l hd) rfl rfl rfl (Nat.le_refl _) (fun _ _ => rfl)
 refine ⟨{ w := c.w, Fb := (c.tell l).Fb, h := freeze c.h l, bs := c.bs }, rfl, rfl, o, G, relL_same (c := c.tell l) (c' := { w := c.w, Fb := (c.tell l).Fb, h := freeze c.h l, bs := c.bs }) ⟨rfl, rfl, fun _ => Iff.rfl, fun i ob ho => ?_⟩ ys vs (deepL_rel ok l xs ys l vs hx hd fun i hi => hi)⟩
 by_cases hi : i ∈ l
 · exact ⟨_, by simp only; rw [(freeze_get l c.h i).2 hi, show c.h[i]? = some ob from ho]; rfl⟩
 · exact ⟨_, by simp only; rw [(freeze_get l c.h i).1 hi]; exact ho⟩
def CR.rel (c : Cx) : CR → Ending → Prop
 | .ret x, e => ∃ v, e = .returned v ∧ relA c x v
 | .pan x, e => ∃ v, e = .panicked [⟨v, false, false⟩] ∧ relA c x v
theorem CR.rel_map {c c' : Cx} {f : AV → Option AV} (h : ∀ x x' v, relA c x v → f x = some x' → relA c' x' v) {r r' : CR} {e : Ending} (hr : r.rel c e) (hm : r.map f = some r') : r'.rel c' e := by
 cases r with
 | ret x =>
  simp only [CR.map, Option.map_eq_some_iff] at hm
  obtain ⟨y, h1, rfl⟩ := hm
  obtain ⟨v, e1, h2⟩ := hr
  exact ⟨v, e1, h x y v h2 h1⟩
 | pan x =>
  simp only [CR.map, Option.map_eq_some_iff] at hm
  obtain ⟨y, h1, rfl⟩ := hm
  obtain ⟨v, e1, h2⟩ := hr
  exact ⟨v, e1, h x y v h2 h1⟩
theorem deepOwnL_get {n : Nat} {h : Heap} : ∀ {xs xs' : List AV}, deepOwn.deepOwnL n h xs = some xs' → xs'.length = xs.length ∧ ∀ (k : Nat) x', xs'[k]? = some x' → ∃ x, xs[k]? = some x ∧ deepOwn n h x = some x'
 | [], xs', e => by simp only [deepOwn.deepOwnL, Option.some.injEq] at e; subst e; exact ⟨rfl, fun k x' h => by simp at h⟩
 | x :: xs, xs', e => by
  simp only [deepOwn.deepOwnL] at e
  split at e
  · rename_i y ys h1 h2
    cases e
    obtain ⟨k1, k2⟩ := deepOwnL_get h2
    refine ⟨by simp [k1], fun k x' hk => ?_⟩
    cases k with
    | zero => simp at hk; subst hk; exact ⟨x, rfl, h1⟩
    | succ k => simpa using k2 k x' (by simpa using hk)
  · cases e
theorem celly_deepOwn {n : Nat} {h : Heap} {x x' : AV} (e : deepOwn n h x = some x') (hx : celly x = true) : celly x' = true := by
 cases x <;> simp only [deepOwn] at e
 case d => cases e; rfl
 case ptr => split at e <;> cases e; rfl
 case ept => split at e <;> cases e; rfl
 case rpt => cases e; rfl
 case osl =>
  split at e
  · cases e; rfl
  · simp only [Option.map_eq_some_iff] at e
    obtain ⟨⟨y, l⟩, e1, rfl⟩ := e
    simp only [deep] at e1
    split at e1
    · split at e1
      · cases e1; rfl
      · cases e1
    · cases e1
 case agg => simp [celly] at hx
 case tup => simp [celly] at hx
 case fn => split at e <;> cases e; rfl
 case yld => split at e <;> cases e; rfl
 case ifc => simp only [Option.map_eq_some_iff] at e; obtain ⟨y, _, rfl⟩ := e; rfl
 case junk => simp [celly] at hx
theorem deepOwnH_get {n : Nat} {h : Heap} : ∀ {l g : Heap}, deepOwnH n h l = some g → g.length = l.length ∧ ∀ (k : Nat) o', g[k]? = some o' → ∃ o, l[k]? = some o ∧ o'.own = o.own ∧ o'.ty = o.ty ∧
 ((∃ cs cs', o.b = .fix cs ∧ o'.b = .fix cs' ∧ deepOwn.deepOwnL n h cs = some cs') ∨ (∃ nl g sz rows, o.b = .arr nl g sz rows ∧ o'.b = .arr nl g sz rows) ∨ (∃ num s cs cs', o.b = .lp num s cs ∧ o'.b = .lp num s cs' ∧ deepOwn.deepOwnL n h cs = some cs'))
 | [], g, e => by simp only [deepOwnH, Option.some.injEq] at e; subst e; exact ⟨rfl, fun k x' h => by simp at h⟩
 | ⟨own, ty, .fix cs⟩ :: l, g, e => by
  simp only [deepOwnH] at e
  split at e
  · rename_i cs' l' h1 h2
    cases e
    obtain ⟨k1, k2⟩ := deepOwnH_get h2
    refine ⟨by simp [k1], fun k o' hk => ?_⟩
    cases k with
    | zero => simp at hk; subst hk; exact ⟨_, rfl, rfl, rfl, .inl ⟨cs, cs', rfl, rfl, h1⟩⟩
    | succ k => simpa using k2 k o' (by simpa using hk)
  · cases e
 | ⟨own, ty, .arr nl gg sz rows⟩ :: l, g, e => by
  simp only [deepOwnH] at e
  split at e
  · rename_i l' h2
    cases e
    obtain ⟨k1, k2⟩ := deepOwnH_get h2
    refine ⟨by simp [k1], fun k o' hk => ?_⟩
    cases k with
    | zero => simp at hk; subst hk; exact ⟨_, rfl, rfl, rfl, .inr (.inl ⟨nl, gg, sz, rows, rfl, rfl⟩)⟩
    | succ k => simpa using k2 k o' (by simpa using hk)
  · cases e
 | ⟨own, ty, .lp num s cs⟩ :: l, g, e => by
  simp only [deepOwnH] at e
  split at e
  · rename_i cs' l' h1 h2
    cases e
    obtain ⟨k1, k2⟩ := deepOwnH_get h2
    refine ⟨by simp [k1], fun k o' hk => ?_⟩
    cases k with
    | zero => simp at hk; subst hk; exact ⟨_, rfl, rfl, rfl, .inr (.inr ⟨num, s, cs, cs', rfl, rfl, h1⟩)⟩
    | succ k => simpa using k2 k o' (by simpa using hk)
  · cases e
theorem putBack_get : ∀ {fp : List Nat} {g h h' : Heap}, fp.Nodup → putBack h fp g = some h' → h'.length = h.length ∧ (∀ i, i ∉ fp → h'[i]? = h[i]?) ∧
 ∀ (k i : Nat), fp[k]? = some i → ∃ o o2, h[i]? = some o ∧ g[k]? = some o2 ∧ h'[i]? = some ⟨joinOwn o.own o2.own, o2.ty, o2.b⟩
 | [], [], h, h', _, e => by simp only [putBack, Option.some.injEq] at e; subst e; exact ⟨rfl, fun _ _ => rfl, fun k i h => by simp at h⟩
 | [], _ :: _, h, h', _, e => by simp [putBack] at e
 | _ :: _, [], h, h', _, e => by simp [putBack] at e
 | j :: fp, o2 :: g, h, h', hn, e => by
  simp only [putBack] at e
  split at e
  · rename_i o ho
    obtain ⟨hj, hn⟩ := List.nodup_cons.1 hn
    obtain ⟨k1, k2, k3⟩ := putBack_get hn e
    refine ⟨by simpa using k1, fun i hi => ?_, fun k i hk => ?_⟩
    · rw [k2 i (fun h => hi (List.mem_cons_of_mem _ h)), List.getElem?_set_ne (fun e => hi (by subst e; exact List.mem_cons_self))]
    · cases k with
      | zero =>
       simp at hk
       subst hk
       refine ⟨o, o2, ho, rfl, ?_⟩
       rw [k2 _ hj, List.getElem?_set_self (List.getElem?_eq_some_iff.1 ho).1]
      | succ k =>
       have hk : fp[k]? = some i := by simpa using hk
       obtain ⟨o', o2', h1, h2, h3⟩ := k3 k i hk
       have hne : j ≠ i := fun e => hj (by subst e; exact List.mem_of_getElem? hk)
       rw [List.getElem?_set_ne hne] at h1
       exact ⟨o', o2', h1, by simpa using h2, h3⟩
  · cases e
theorem tell_nil_fb {c : Cx} {b : Nat} : (c.tell []).Fb b ↔ c.Fb b := by simp [Cx.tell]
theorem goes_tell_nil {c : Cx} : c.tell [] = c := by
 cases c
 simp only [Cx.tell, Cx.mk.injEq, true_and, and_true]
 funext b
 simp
set_option maxHeartbeats 800000 in
theorem call_ctx (ok : Ok c) {m : Mode} (hno : m ≠ .opn) {args : List AV} {x : Handed} (hh : hand m c.h args = some x) {vals : List Value} (hargs : relL c args vals) :
 ∃ cc, cc.w = c.w ∧ cc.h = x.h ∧ Ok cc ∧ relL cc x.args vals ∧ Stays c.w c.Fb cc.w cc.Fb ∧
  ∀ cc' r r' e, Ok cc' → Goes cc cc' → cc'.h = r.h → CR.rel cc' r.r e → back m c.h x r = some r' → ∃ c', c'.w = cc'.w ∧ c'.h = r'.h ∧ Ok c' ∧ Goes c c' ∧ CR.rel c' r'.r e ∧ r'.rc = r.rc := by
 unfold hand at hh
 split at hh
 · -- pure
   split at hh
   · rename_i args1 told hd
     obtain ⟨S, hren, rfl, hdis⟩ := sub_mk hh
     have hTell := deepL_told args args1 _ hd
     have M := S.map ok (c0 := c.tell x.told) rfl rfl rfl (fun b h => h.1)
     have okc : Ok ((c.tell x.told).sub x.fp x.h) := S.ok ok hdis (fun o => by cases o <;> simp [lend])
     have h1 := deepL_rel ok x.told args args1 _ _ hargs hd (fun i h => h)
     have M2 : MapOk (c.tell x.told) ((c.tell x.told).sub x.fp x.h) (place · x.fp) := ⟨⟨fun _ _ _ a b => ⟨a, b⟩, fun _ _ _ _ _ => rfl⟩, fun _ => rfl, M.obj, M.lp⟩
     refine ⟨(c.tell x.told).sub x.fp x.h, rfl, rfl, okc, relL_ren M2 _ _ _ h1 hren, stays_tell c _, ?_⟩
     intro cc' r r' e ok' G hrh hrel hb
     have hnoWr : ∀ b, ¬ Wr ((c.tell x.told).sub x.fp x.h) b := by
      rintro b ⟨i, q, ty, y, e1, e2⟩
      obtain ⟨_, o, _, _, e3, _⟩ := S.obj i _ e1
      simp only at e3
      cases ho : o.own <;> rw [ho] at e3 <;> cases e3
     have hblk : ∀ b, b < c.w.heap.size → cc'.w.heap[b]? = c.w.heap[b]? := fun b hb => G.blk b hb (hnoWr b)
     have hnotmine : ∀ (i : Nat) o, x.h[i]? = some o → o.own ≠ .mine := by
      intro i o ho e1
      obtain ⟨_, o0, _, _, e3, _⟩ := S.obj i _ ho
      rw [e1] at e3
      cases h0 : o0.own <;> rw [h0] at e3 <;> cases e3
     simp only [back] at hb
     split at hb
     · rename_i cr hcr
       have main : ∀ T : List Nat, (T = x.told ∨ T = [] ∧ loose cr.val = true) → r' = ⟨cr, freeze c.h T, r.rc⟩ →
        ∃ c', c'.w = cc'.w ∧ c'.h = r'.h ∧ Ok c' ∧ Goes c c' ∧ CR.rel c' r'.r e ∧ r'.rc = r.rc := by
        intro T hT hr'
        subst hr'
        have hTT : ∀ i ∈ T, Tellable c.h i := by
         rcases hT with rfl | ⟨rfl, _⟩
         · exact hTell
         · intro i hi; cases hi
        obtain ⟨ok1, G1⟩ := pure_ctx ok (w' := cc'.w) hTT G.os G.tape G.output G.size hblk
        refine ⟨⟨cc'.w, (c.tell T).Fb, freeze c.h T, c.bs⟩, rfl, rfl, ok1, G1, ?_, rfl⟩
        rcases hT with rfl | ⟨rfl, hl⟩
        · refine CR.rel_map (fun y y' v hy hy' => ?_) hrel hcr
          rw [← hrh] at hy'
          refine deepOwn_rel (c1 := ⟨cc'.w, (c.tell x.told).Fb, freeze c.h x.told, c.bs⟩) ok' ⟨rfl, fun b hf => G.keep b hf (hnoWr b), fun i b q own ty nl g sz rows _ ho hnl hbs hf => ?_, fun i hi => by omega, fun i _ _ _ hi => by omega, fun i _ _ _ _ _ _ hi => by omega, fun i _ _ _ _ _ hi => by omega⟩ y y' v hy hy'
          cases own with
          | lent => exact hnl rfl
          | frozen =>
           have := ok'.obj i _ ho
           simp only [relO] at this
           rcases this with ⟨_, _, e1⟩ | ⟨_, b', q', e1, _, _, _, _, hf', _⟩
           · rw [hbs] at e1; cases e1
           · rw [hbs] at e1; cases e1; exact hf' trivial (G.keep b hf (hnoWr b))
          | mine =>
           rcases Nat.lt_or_ge i x.h.length with hi | hi
           · obtain ⟨o', e1, e2, _⟩ := G.obj i _ (List.getElem?_eq_getElem hi)
             rw [ho] at e1
             cases e1
             rcases e2 with e2 | ⟨_, e2⟩
             · exact hnotmine i _ (List.getElem?_eq_getElem hi) e2.symm
             · cases e2
           · rcases G.place i b q hbs with e1 | e1
             · have : i < ((c.tell x.told).sub x.fp x.h).bs.length := (List.getElem?_eq_some_iff.1 e1).1
               rw [okc.len] at this
               exact absurd this (by simp only [Cx.sub]; omega)
             · exact absurd (ok.fbs b hf.1) (by simp only [Cx.sub, Cx.tell] at e1; omega)
        · have hr1 : CR.rel { w := cc'.w, Fb := fun _ => False, h := [], bs := [] } cr e := by
           refine CR.rel_map (fun y y' v hy hy' => ?_) hrel hcr
           rw [← hrh] at hy'
           exact deepOwn_rel (c1 := ⟨cc'.w, fun _ => False, [], []⟩) ok' ⟨rfl, fun b hf => hf.elim, fun i b q own ty nl g sz rows _ ho hnl hbs hf => hf, fun i hi => by omega, fun i _ _ _ hi => by omega, fun i _ _ _ _ _ _ hi => by omega, fun i _ _ _ _ _ hi => by omega⟩ y y' v hy hy'
          cases cr with
          | ret z => obtain ⟨v, e1, h2⟩ := hr1; exact ⟨v, e1, loose_rel z v hl h2⟩
          | pan z => obtain ⟨v, e1, h2⟩ := hr1; exact ⟨v, e1, loose_rel z v hl h2⟩
       split at hb
       · exact main x.told (.inl rfl) (Option.some.inj hb).symm
       · rename_i hno
         cases hl : loose cr.val with
         | true => exact main [] (.inr ⟨rfl, hl⟩) (Option.some.inj hb).symm
         | false =>
          have ht : x.told = [] := by
           cases ht : x.told with
           | nil => rfl
           | cons a l => exact absurd ht (hno a l hl)
          exact main [] (.inl ht.symm) (Option.some.inj hb).symm
     · cases hb
   · cases hh
 · -- drop
   obtain ⟨S, hren, ht, _⟩ := sub_mk hh
   have M := S.map ok (c0 := c.tell []) rfl rfl rfl (fun b h => h.1)
   have okc : Ok ((c.tell []).sub x.fp x.h) := S.ok ok (fun i h => by cases h) (fun o => by simp)
   refine ⟨(c.tell []).sub x.fp x.h, rfl, rfl, okc, relL_ren M _ _ _ hargs hren, stays_tell c _, ?_⟩
   intro cc' r r' e ok' G hrh hrel hb
   simp only [back] at hb
   split at hb
   · rename_i cr g1 hcr hg1
     split at hb
     · rename_i g2 cr2 hg2 hcr2
       split at hb
       · rename_i h' hput
         cases hb
         have hfpl : x.h.length = x.fp.length := S.len
         obtain ⟨p1, p2, p3⟩ := putBack_get S.nodup hput
         obtain ⟨a1, a2⟩ := deepOwnH_get hg1
         obtain ⟨b1, b2⟩ := renH_get hg2
         -- the blocks of the objects that were handed
         have hccbs : ∀ (k i b q : Nat), x.fp[k]? = some i → ((c.tell []).sub x.fp x.h).bs[k]? = some (some (b, q)) → c.bs[i]? = some (some (b, q)) := by
          intro k i b q hk hb
          have hkl : k < x.h.length := by rw [hfpl]; exact (List.getElem?_eq_some_iff.1 hk).1
          obtain ⟨i', o, h1, h2, _⟩ := S.obj k _ (List.getElem?_eq_getElem hkl)
          rw [hk] at h1
          cases h1
          rw [sub_bs (c := c.tell []) ok.len hk h2] at hb
          exact hb
         have hWr : ∀ b, Wr ((c.tell []).sub x.fp x.h) b → Wr c b := by
          rintro b ⟨k, q, ty, y, e1, e2⟩
          obtain ⟨i, o, h1, h2, h3, _⟩ := S.obj k _ e1
          obtain ⟨own, oty, ob⟩ := o
          simp only [id] at h3
          subst h3
          exact ⟨i, q, oty, ob, h2, hccbs k i b q h1 e2⟩
         have hWrIn : ∀ (i b q : Nat), i ∉ x.fp → c.bs[i]? = some (some (b, q)) → ¬ Wr ((c.tell []).sub x.fp x.h) b := by
          rintro i b q hi hb ⟨k, q', ty, y, e1, e2⟩
          obtain ⟨i', o, h1, h2, h3, _⟩ := S.obj k _ e1
          have := ok.apart i i' b q q' hb (hccbs k i' b q' h1 e2)
          subst this
          exact hi (List.mem_of_getElem? h1)
         let Fb' : Nat → Prop := fun b => (b < c.w.heap.size ∧ c.Fb b ∧ cc'.Fb b) ∨ ∃ (j q : Nat) (o : Obj), j < x.fp.length ∧ cc'.bs[j]? = some (some (b, q)) ∧ cc'.h[j]? = some o ∧ o.own ≠ .frozen
         have hFbcc : ∀ b, Fb' b → cc'.Fb b := by
          rintro b (h | ⟨j, q, o, _, hb, ho, hn⟩)
          · exact h.2.2
          · have := ok'.obj j o ho
            unfold relO at this
            cases hob : o.b with
            | fix cs =>
             simp only [hob] at this
             obtain ⟨b', e1, _, _, _, hf, _⟩ := this
             rw [hb] at e1; cases e1; exact hf hn
            | arr nl g sz rows =>
             simp only [hob] at this
             rcases this with ⟨_, _, e1⟩ | ⟨_, b', q', e1, _, _, _, hf, _⟩
             · rw [hb] at e1; cases e1
             · rw [hb] at e1; cases e1; exact hf hn
            | lp num s caps =>
             simp only [hob] at this
             obtain ⟨b', e1, _, hf, _⟩ := this
             rw [hb] at e1; cases e1; exact hf hn
         let bs' : List (Option (Nat × Nat)) := (List.range c.bs.length).map fun i => match place i x.fp with
          | some j => (cc'.bs[j]?).getD none
          | none => (c.bs[i]?).getD none
         have hcclen : x.fp.length ≤ cc'.h.length := by
          rcases Nat.eq_zero_or_pos x.fp.length with h0 | h0
          · omega
          · have hk : x.fp.length - 1 < x.h.length := by omega
            obtain ⟨o', e1, _⟩ := G.obj (x.fp.length - 1) _ (show ((c.tell []).sub x.fp x.h).h[x.fp.length - 1]? = some _ from List.getElem?_eq_getElem hk)
            have := (List.getElem?_eq_some_iff.1 e1).1
            omega
         have hplace : ∀ (k i : Nat), x.fp[k]? = some i → place i x.fp = some k := by
          intro k i hk
          cases hp : place i x.fp with
          | none =>
           exfalso
           have : ∀ (l : List Nat), place i l = none → i ∉ l := by
            intro l
            induction l with
            | nil => intro _ h; cases h
            | cons j l ih =>
             intro h1 h2
             simp only [place] at h1
             split at h1
             · cases h1
             · rename_i hne
               split at h1
               · cases h1
               · rename_i hn2
                 rcases List.mem_cons.1 h2 with rfl | h3
                 · simp at hne
                 · exact ih hn2 h3
           exact this _ hp (List.mem_of_getElem? hk)
          | some k' => exact congrArg some (nodup_get S.nodup (place_get hp) hk)
         have hbsIn : ∀ (k i : Nat), x.fp[k]? = some i → bs'[i]? = cc'.bs[k]? := by
          intro k i hk
          obtain ⟨o, _, ho, _⟩ := p3 k i hk
          have hil : i < c.bs.length := by rw [ok.len]; exact (List.getElem?_eq_some_iff.1 ho).1
          have hkl : k < cc'.bs.length := by rw [ok'.len]; exact Nat.lt_of_lt_of_le (List.getElem?_eq_some_iff.1 hk).1 hcclen
          simp only [bs', List.getElem?_map, List.getElem?_range hil, Option.map_some, hplace k i hk, List.getElem?_eq_getElem hkl, Option.getD_some]
         have hbsOut : ∀ i, i ∉ x.fp → bs'[i]? = c.bs[i]? := by
          intro i hi
          rcases Nat.lt_or_ge i c.bs.length with hil | hil
          · have hp : place i x.fp = none := by
             cases hp : place i x.fp with
             | none => rfl
             | some k => exact absurd (List.mem_of_getElem? (place_get hp)) hi
            simp only [bs', List.getElem?_map, List.getElem?_range hil, Option.map_some, hp, List.getElem?_eq_getElem hil, Option.getD_some]
          · rw [List.getElem?_eq_none hil, List.getElem?_eq_none (by simpa [bs'] using hil)]
         let c1 : Cx := { w := cc'.w, Fb := Fb', h := g1, bs := cc'.bs.take x.fp.length }
         let c' : Cx := { w := cc'.w, Fb := Fb', h := h', bs := bs' }
         have hg1o : ∀ (k : Nat) o', g1[k]? = some o' → k < x.fp.length ∧ ∃ o, cc'.h[k]? = some o ∧ o'.own = o.own ∧ o'.ty = o.ty ∧
          ((∃ cs cs', o.b = .fix cs ∧ o'.b = .fix cs' ∧ deepOwn.deepOwnL x.fp.length r.h cs = some cs') ∨ (∃ nl g sz rows, o.b = .arr nl g sz rows ∧ o'.b = .arr nl g sz rows) ∨ (∃ num s cs cs', o.b = .lp num s cs ∧ o'.b = .lp num s cs' ∧ deepOwn.deepOwnL x.fp.length r.h cs = some cs')) := by
          intro k o' hk
          obtain ⟨o, h1, h2, h2', h3⟩ := a2 k o' hk
          rw [List.getElem?_take] at h1
          split at h1
          · rename_i hlt; exact ⟨hlt, o, by rw [hrh]; exact h1, h2, h2', h3⟩
          · cases h1
         have hg1l : ∀ k, k < x.fp.length → ∃ o', g1[k]? = some o' := by
          intro k hk
          have : k < g1.length := by rw [a1, List.length_take, ← hrh]; omega
          exact ⟨_, List.getElem?_eq_getElem this⟩
         have L : Left x.fp.length cc' c1 := by
          refine ⟨rfl, hFbcc, fun i b q own ty nl g sz rows hi ho hnl hbs hf => ?_, fun i hi => by simp [c1, List.getElem?_take, hi], fun i own ty cs hi ho => ?_, fun i own ty nl g sz rows hi ho => ?_, fun i own ty num s caps hi ho => ?_⟩
          · have hnew : c.w.heap.size ≤ b := by
             rcases G.place i b q hbs with e1 | e1
             · have : i < ((c.tell []).sub x.fp x.h).bs.length := (List.getElem?_eq_some_iff.1 e1).1
               rw [okc.len] at this
               exact absurd this (by simp only [Cx.sub]; omega)
             · exact e1
            rcases hf with hf | ⟨j, q', o, hj, hb, _, _⟩
            · omega
            · have := ok'.apart i j b q q' hbs hb; omega
          · obtain ⟨o', h1⟩ := hg1l i hi
            obtain ⟨_, o, h2, _, _, h3⟩ := hg1o i o' h1
            rw [ho] at h2
            cases h2
            rcases h3 with ⟨cs0, cs', e1, e2, _⟩ | ⟨_, _, _, _, e1, _⟩ | ⟨_, _, _, _, e1, _⟩
            · exact ⟨o'.own, o'.ty, cs', by simp only [c1]; rw [h1, ← e2]⟩
            · cases e1
            · cases e1
          · obtain ⟨o', h1⟩ := hg1l i hi
            obtain ⟨_, o, h2, _, _, h3⟩ := hg1o i o' h1
            rw [ho] at h2
            cases h2
            rcases h3 with ⟨cs0, cs', e1, e2, _⟩ | ⟨_, _, _, _, e1, e2⟩ | ⟨_, _, _, _, e1, _⟩
            · cases e1
            · cases e1; exact ⟨o'.own, o'.ty, by simp only [c1]; rw [h1, ← e2]⟩
            · cases e1
          · obtain ⟨o', h1⟩ := hg1l i hi
            obtain ⟨_, o, h2, _, _, h3⟩ := hg1o i o' h1
            rw [ho] at h2
            cases h2
            rcases h3 with ⟨cs0, cs', e1, e2, _⟩ | ⟨_, _, _, _, e1, e2⟩ | ⟨_, _, cs0, cs', e1, e2, _⟩
            · cases e1
            · cases e1
            · cases e1; exact ⟨o'.own, o'.ty, cs', by simp only [c1]; rw [h1, ← e2]⟩
         have M2 : MapOk c1 c' (x.fp[·]?) := by
          refine ⟨⟨fun b o v h1 h2 => ⟨h1, h2⟩, fun _ _ _ _ _ => rfl⟩, fun _ => rfl, fun k i hk => ?_, fun k i hk own ty num s caps h1 => ?_⟩
          rotate_left
          · obtain ⟨o, o2, ho, ho2, hh'⟩ := p3 k i hk
            obtain ⟨o1, e1, e2, e2', e3⟩ := b2 k o2 ho2
            have h1 : g1[k]? = _ := h1
            rw [e1] at h1
            cases h1
            obtain ⟨cs', e4, _⟩ := renO_lp e3
            exact ⟨_, _, cs', by simp only [c']; rw [hh', e4]⟩
          have hkl : k < x.fp.length := (List.getElem?_eq_some_iff.1 hk).1
          obtain ⟨o, o2, ho, ho2, hh'⟩ := p3 k i hk
          refine ⟨by simp only [c', c1]; rw [hbsIn k i hk]; simp [List.getElem?_take, hkl], fun own ty cs h1 => ?_, fun own ty nl g sz rows h1 => ?_⟩
          · obtain ⟨o1, e1, e2, e2', e3⟩ := b2 k o2 ho2
            have h1 : g1[k]? = _ := h1
            rw [e1] at h1
            cases h1
            obtain ⟨cs', e4, _⟩ := renO_fix e3
            exact ⟨_, _, cs', by simp only [c']; rw [hh', e4]⟩
          · obtain ⟨o1, e1, e2, e2', e3⟩ := b2 k o2 ho2
            have h1 : g1[k]? = _ := h1
            rw [e1] at h1
            cases h1
            have e4 := renO_arr e3
            exact ⟨_, _, by simp only [c']; rw [hh', e4]⟩
         have G' : Goes c c' := by
          refine ⟨G.os, G.tape, G.output, G.size, fun b hb hn => G.blk b hb fun hw => hn (hWr b hw), fun b hb hw => ?_, fun b hb hf => ?_, fun b hf hn => .inl ⟨ok.fbs b hf, hf, G.keep b ⟨hf, by simp⟩ fun hw => hn (hWr b hw)⟩, fun i b q hi => ?_, fun i o ho => ?_⟩
          · obtain ⟨i, q, ty, y, e1, e2⟩ := hw
            by_cases hi : i ∈ x.fp
            · obtain ⟨k, hk⟩ := List.getElem?_of_mem hi
              obtain ⟨o, o2, ho, ho2, hh'⟩ := p3 k i hk
              have e1 : h'[i]? = _ := e1
              have e2 : bs'[i]? = _ := e2
              rw [hh'] at e1
              have hown : joinOwn o.own o2.own = .mine := congrArg Obj.own (Option.some.inj e1)
              have hom : o.own = .mine := by cases h1 : o.own <;> cases h2 : o2.own <;> rw [h1, h2] at hown <;> first | rfl | cases hown
              rw [hbsIn k i hk] at e2
              rcases G.place k b q e2 with e3 | e3
              · obtain ⟨own, oty, ob⟩ := o
                simp only at hom
                subst hom
                exact ⟨i, q, oty, ob, ho, hccbs k i b q hk e3⟩
              · have : c.w.heap.size ≤ b := e3
                omega
            · have e1 : h'[i]? = _ := e1
              have e2 : bs'[i]? = _ := e2
              rw [p2 i hi] at e1
              rw [hbsOut i hi] at e2
              exact ⟨i, q, ty, y, e1, e2⟩
          · rcases hf with hf | ⟨j, q, o, hj, hbj, ho, hn⟩
            · exact hf.2.1
            · rcases G.place j b q hbj with e3 | e3
              · have hf2 := G.fb b hb (hFbcc b (.inr ⟨j, q, o, hj, hbj, ho, hn⟩))
                exact hf2.1
              · have : c.w.heap.size ≤ b := e3
                omega
          · have hi : bs'[i]? = _ := hi
            by_cases hm : i ∈ x.fp
            · obtain ⟨k, hk⟩ := List.getElem?_of_mem hm
              rw [hbsIn k i hk] at hi
              rcases G.place k b q hi with e3 | e3
              · exact .inl (hccbs k i b q hk e3)
              · exact .inr e3
            · rw [hbsOut i hm] at hi
              exact .inl hi
          · by_cases hm : i ∈ x.fp
            · obtain ⟨k, hk⟩ := List.getElem?_of_mem hm
              obtain ⟨o', o2, ho', ho2, hh'⟩ := p3 k i hk
              rw [ho] at ho'
              cases ho'
              have hkl : k < x.h.length := by rw [hfpl]; exact (List.getElem?_eq_some_iff.1 hk).1
              obtain ⟨i', o0, h1, h2, h3, hty0, h4⟩ := S.obj k _ (List.getElem?_eq_getElem hkl)
              rw [hk] at h1
              cases h1
              rw [ho] at h2
              cases h2
              obtain ⟨oc, q1, q2, q3⟩ := G.obj k _ (show ((c.tell []).sub x.fp x.h).h[k]? = some _ from List.getElem?_eq_getElem hkl)
              obtain ⟨o1, e1, e2, e2', e3⟩ := b2 k o2 ho2
              obtain ⟨_, oc', f1, f2, f2', f3⟩ := hg1o k o1 e1
              rw [q1] at f1
              cases f1
              refine ⟨_, hh', ?_, ?_⟩
              · simp only [id] at e2 h3
                rw [e2, f2]
                rcases q2 with q2 | ⟨q2, q2'⟩
                · rw [q2, h3]; cases o.own <;> simp [joinOwn]
                · rw [q2']; rw [h3] at q2; exact .inr ⟨q2, by rw [q2]; rfl⟩
              · simp only [c']
                have hsb : ((c.tell []).sub x.fp x.h).bs[k]? = c.bs[i]? := sub_bs (c := c.tell []) (g := x.h) ok.len hk ho
                rw [hbsIn k i hk, ← hsb]
                cases hob : o.b with
                | fix cs =>
                 rw [hob] at h4
                 obtain ⟨cs', e4, e5⟩ := renO_fix h4
                 rw [e4] at q3
                 rcases f3 with ⟨cs0, cs1, g1', g2', g3'⟩ | ⟨_, _, _, _, g1', _⟩ | ⟨_, _, _, _, g1', _⟩
                 · rw [g1'] at q3
                   rw [g2'] at e3
                   obtain ⟨cs2, e6, e7⟩ := renO_fix e3
                   rw [e6]
                   simp only [OB.goes] at q3 ⊢
                   refine ⟨?_, q3.2⟩
                   rw [(renL_get e7).1, (deepOwnL_get g3').1, q3.1, (renL_get e5).1]
                 · rw [g1'] at q3; simp only [OB.goes] at q3
                 · rw [g1'] at q3; simp only [OB.goes] at q3
                | lp num s caps =>
                 rw [hob] at h4
                 obtain ⟨cs', e4, e5⟩ := renO_lp h4
                 rw [e4] at q3
                 rcases f3 with ⟨cs0, cs1, g1', g2', g3'⟩ | ⟨_, _, _, _, g1', _⟩ | ⟨_, _, _, _, g1', g2', g3'⟩
                 · rw [g1'] at q3; simp only [OB.goes] at q3
                 · rw [g1'] at q3; simp only [OB.goes] at q3
                 · rw [g1'] at q3
                   rw [g2'] at e3
                   obtain ⟨cs2, e6, e7⟩ := renO_lp e3
                   rw [e6]
                   simp only [OB.goes] at q3 ⊢
                   exact q3
                | arr nl g sz rows =>
                 rw [hob] at h4
                 have e4 := renO_arr h4
                 rw [e4] at q3
                 rcases f3 with ⟨cs0, cs1, g1', g2', g3'⟩ | ⟨nl', g', sz', rows', g1', g2'⟩ | ⟨_, _, _, _, g1', _⟩
                 · rw [g1'] at q3; simp only [OB.goes] at q3
                 · rw [g1'] at q3
                   rw [g2'] at e3
                   rw [renO_arr e3]
                   exact q3
                 · rw [g1'] at q3; simp only [OB.goes] at q3
            · refine ⟨o, by simp only [c']; rw [p2 i hm]; exact ho, .inl rfl, ?_⟩
              simp only [c']
              rw [hbsOut i hm]
              cases o.b with
              | fix => simp [OB.goes]
              | lp => simp [OB.goes]
              | arr =>
               simp only [OB.goes, Nat.le_refl, true_and, forall_const]
               exact fun b q hb => csize_heap (G.blk b (ok.block_lt hb) (hWrIn i b q hm hb))
         have okc' : Ok c' := by
          refine ⟨by simp only [c', p1, bs', List.length_map, List.length_range, ok.len], ?_, fun b hf => ok'.fbs b (hFbcc b hf), fun i o ho => ?_⟩
          · have key : ∀ (i b q : Nat), bs'[i]? = some (some (b, q)) → (∃ k : Nat, x.fp[k]? = some i ∧ cc'.bs[k]? = some (some (b, q))) ∨ (i ∉ x.fp ∧ c.bs[i]? = some (some (b, q))) := by
             intro i b q hi
             by_cases hm : i ∈ x.fp
             · obtain ⟨k, hk⟩ := List.getElem?_of_mem hm
               exact .inl ⟨k, hk, by rw [← hbsIn k i hk]; exact hi⟩
             · exact .inr ⟨hm, by rw [← hbsOut i hm]; exact hi⟩
            have mixed : ∀ (i j k b q q' : Nat), x.fp[k]? = some i → cc'.bs[k]? = some (some (b, q)) → j ∉ x.fp → c.bs[j]? = some (some (b, q')) → False := by
             intro i j k b q q' hk hb hj hb'
             rcases G.place k b q hb with e3 | e3
             · have := ok.apart i j b q q' (hccbs k i b q hk e3) hb'
               subst this
               exact hj (List.mem_of_getElem? hk)
             · have h1 := ok.block_lt hb'
               have : c.w.heap.size ≤ b := e3
               omega
            intro i j b q q' hi hj
            rcases key i b q hi with ⟨k, hk, hkb⟩ | ⟨hm, hib⟩ <;> rcases key j b q' hj with ⟨l, hl, hlb⟩ | ⟨hm', hjb⟩
            · have := ok'.apart k l b q q' hkb hlb
              subst this
              rw [hk] at hl
              exact Option.some.inj hl
            · exact (mixed i j k b q q' hk hkb hm' hjb).elim
            · exact (mixed j i l b q' q hl hlb hm hib).elim
            · exact ok.apart i j b q q' hib hjb
          · have ho : h'[i]? = _ := ho
            by_cases hm : i ∈ x.fp
            · obtain ⟨k, hk⟩ := List.getElem?_of_mem hm
              obtain ⟨o0, o2, ho0, ho2, hh'⟩ := p3 k i hk
              rw [hh'] at ho
              cases ho
              obtain ⟨o1, e1, e2, e2', e3⟩ := b2 k o2 ho2
              obtain ⟨hkl, oc, f1, f2, f2', f3⟩ := hg1o k o1 e1
              have hO := ok'.obj k oc f1
              have hbb : c'.bs[i]? = cc'.bs[k]? := hbsIn k i hk
              have hown : o2.own = oc.own := by simp only [id] at e2; rw [e2, f2]
              have hoty : o2.ty = oc.ty := by rw [e2', f2']
              have hnf : ∀ b q, cc'.bs[k]? = some (some (b, q)) → joinOwn o0.own o2.own ≠ .frozen → c'.Fb b := by
               intro b q hb hn
               refine .inr ⟨k, q, oc, hkl, hb, f1, fun e => hn ?_⟩
               rw [hown, e]; cases o0.own <;> rfl
              have hfz : ∀ b q, cc'.bs[k]? = some (some (b, q)) → joinOwn o0.own o2.own = .frozen → (oc.own = .frozen → ¬ cc'.Fb b) → ¬ c'.Fb b := by
               intro b q hb hj hcf
               have hocf : oc.own = .frozen := by
                cases h1 : oc.own with
                | frozen => rfl
                | _ =>
                 exfalso
                 rw [hown, h1] at hj
                 have h0 : o0.own = .frozen := by cases h2 : o0.own <;> rw [h2] at hj <;> first | rfl | cases hj
                 obtain ⟨i', o9, y1, y2, y3, _⟩ := S.obj k _ (List.getElem?_eq_getElem (show k < x.h.length by omega))
                 rw [hk] at y1
                 cases y1
                 rw [ho0] at y2
                 cases y2
                 obtain ⟨oc2, z1, z2, _⟩ := G.obj k _ (show ((c.tell []).sub x.fp x.h).h[k]? = some _ from List.getElem?_eq_getElem (show k < x.h.length by omega))
                 rw [f1] at z1
                 cases z1
                 simp only [id] at y3
                 rcases z2 with z2 | ⟨z2, z2'⟩
                 · rw [h1, y3, h0] at z2; cases z2
                 · rw [y3, h0] at z2; cases z2
               rintro (hf | ⟨j, q', o, hj', hb', ho', hn'⟩)
               · exact hcf hocf hf.2.2
               · have := ok'.apart k j b q q' hb hb'
                 subst this
                 rw [f1] at ho'
                 cases ho'
                 exact hn' hocf
              unfold relO at hO ⊢
              rcases f3 with ⟨cs0, cs1, g1', g2', g3'⟩ | ⟨nl', g', sz', rows', g1', g2'⟩ | ⟨num', s', cs0, cs1, g1', g2', g3'⟩
              rotate_left 2
              · simp only [g1'] at hO
                rw [g2'] at e3
                obtain ⟨cs2, e6, e7⟩ := renO_lp e3
                simp only [e6]
                obtain ⟨b, hb, hlt, hf, vs, hr, hl⟩ := hO
                rw [← hrh] at g3'
                exact ⟨b, by rw [hbb]; exact hb, hlt, fun hn => hnf b 0 hb hn, vs, relL_ren M2 _ _ _ (deepOwnL_rel ok' L _ _ _ hr g3') e7, hl⟩
              · simp only [g1'] at hO
                rw [g2'] at e3
                obtain ⟨cs2, e6, e7⟩ := renO_fix e3
                simp only [e6]
                obtain ⟨l1, l2⟩ := renL_get e7
                obtain ⟨m1, m2⟩ := deepOwnL_get g3'
                obtain ⟨b, hb, hic, hsz, hfz', hf, hf', hc⟩ := hO
                refine ⟨b, by rw [hbb]; exact hb, by rw [hoty]; exact hic, by rw [l1, m1]; exact hsz, fun j hj => hfz' j (by rwa [l1, m1] at hj), fun hn => hnf b 0 hb hn, fun hj => hfz b 0 hb hj hf', fun j y hy => ?_⟩
                obtain ⟨y1, n1, n2⟩ := l2 j y hy
                obtain ⟨y0, n3, n4⟩ := m2 j y1 n1
                obtain ⟨t1, v, t2, t3⟩ := hc j y0 n3
                rw [← hrh] at n4
                exact ⟨by rw [celly_ren _ _ n2]; exact celly_deepOwn n4 t1, v, t2, relA_ren M2 y1 v y (deepOwn_rel ok' L y0 y1 v t3 n4) n2⟩
              · simp only [g1'] at hO
                rw [g2'] at e3
                simp only [renO_arr e3]
                rcases hO with ⟨t1, t2, t3⟩ | ⟨hnn, b, q, hb, hic, hsz, hfz', hf, hf', hc⟩
                · exact .inl ⟨t1, t2, by rw [hbb]; exact t3⟩
                · refine .inr ⟨hnn, b, q, by rw [hbb]; exact hb, by rw [hoty]; exact hic, hsz, hfz', fun hn => hnf b q hb hn, fun hj => hfz b q hb hj hf', fun r row hr => ⟨(hc r row hr).1, fun j y hy => ?_⟩⟩
                  obtain ⟨v, t2, t3⟩ := (hc r row hr).2 j y hy
                  exact ⟨v, t2, relD_stays L.stays y v t3⟩
            · rw [p2 i hm] at ho
              refine relO_goes G' ok (ok.obj i o ho) (hbsOut i hm) (fun b q hb => G.blk b (ok.block_lt hb) (hWrIn i b q hm hb)) fun b q hb => ⟨?_, fun hf => .inl ⟨ok.fbs b hf, hf, G.keep b ⟨hf, by simp⟩ (hWrIn i b q hm hb)⟩⟩
              rintro (hf | ⟨j, q', o', hj, hbj, _, _⟩)
              · exact hf.2.1
              · rcases G.place j b q' hbj with e3 | e3
                · obtain ⟨i', hi'⟩ : ∃ i', x.fp[j]? = some i' := ⟨_, List.getElem?_eq_getElem hj⟩
                  have := ok.apart i i' b q q' hb (hccbs j i' b q' hi' e3)
                  subst this
                  exact absurd (List.mem_of_getElem? hi') hm
                · have h1 := ok.block_lt hb
                  have : c.w.heap.size ≤ b := e3
                  omega
         refine ⟨c', rfl, rfl, okc', G', ?_, rfl⟩
         refine CR.rel_map (fun y y' v hy hy' => relA_ren M2 y v y' hy hy') (c := c1) (CR.rel_map (fun y y' v hy hy' => ?_) hrel hcr) hcr2
         rw [← hrh] at hy'
         exact deepOwn_rel ok' L y y' v hy hy'
       · cases hb
     · cases hb
   · cases hb
 · exact (hno rfl).elim
end
end Go.Proofs.YtlhajccbfapieaaGreatDoor.Ab
