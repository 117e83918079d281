/- A whole run, as what is to be shown of it. -/
import Derived.Test.YtlhajccbfapieaaGreatDoorAbVo
namespace Go.Proofs.YtlhajccbfapieaaGreatDoor.Ab
open Go
set_option linter.unusedVariables false
set_option linter.unusedSimpArgs false
def vHand (m : Mode) (h : Heap) (args : List AV) (k : Handed → Prop) : Prop := match m with
 | .pure => vDL h args fun args told => vq (handRest lend h args told) k
 | .drop => vq (handRest id h args []) k
 | .opn => vq (handRest id h args []) k
theorem vHand_ok {m : Mode} {h : Heap} {args : List AV} {k : Handed → Prop} (e : vHand m h args k) : ∃ x, hand m h args = some x ∧ k x := by
 unfold vHand at e
 unfold hand
 split at e
 · obtain ⟨a, t, h1, e⟩ := vDL_ok h args _ e
   simp only [h1]
   exact vq_ok e
 · exact vq_ok e
 · exact vq_ok e
mutual
def vDO (n : Nat) (h : Heap) : AV → (AV → Prop) → Prop
 | .d v, k => k (.d v)
 | .osl i g lo hi, k => match Nat.blt i n with
  | true => k (.osl i g lo hi)
  | false => vD h (.osl i g lo hi) fun x _ => k x
 | .ptr i c, k => match Nat.blt i n with
  | true => k (.ptr i c)
  | false => False
 | .ept i g r c, k => match Nat.blt i n with
  | true => k (.ept i g r c)
  | false => False
 | .yld m num i, k => match Nat.blt i n with
  | true => k (.yld m num i)
  | false => False
 | .rpt r c, k => k (.rpt r c)
 | .agg cs, k => vDOL n h cs fun cs => k (.agg cs)
 | .tup vs, k => vDOL n h vs fun vs => k (.tup vs)
 | .fn m f a b, k => vDOL n h a fun a => vDOL n h b fun b => k (.fn m f a b)
 | .ifc t v, k => vDO n h v fun v => k (.ifc t v)
 | .junk, k => k .junk
def vDOL (n : Nat) (h : Heap) : List AV → (List AV → Prop) → Prop
 | [], k => k []
 | x :: l, k => vDO n h x fun x => vDOL n h l fun l => k (x :: l)
end
mutual
theorem vDO_ok (n : Nat) (h : Heap) : ∀ (x : AV) (k : AV → Prop), vDO n h x k → ∃ y, deepOwn n h x = some y ∧ k y
 | .d v, k, e => ⟨_, rfl, e⟩
 | .osl i g lo hi, k, e => by
  simp only [vDO] at e
  split at e
  · rename_i h1; exact ⟨_, by simp only [deepOwn, h1], e⟩
  · rename_i h1
    obtain ⟨y, l, h2, e⟩ := vD_ok h _ _ e
    exact ⟨y, by simp only [deepOwn, h1, h2, Option.map_some], e⟩
 | .ptr i c, k, e => by
  simp only [vDO] at e
  split at e
  · rename_i h1; exact ⟨_, by simp only [deepOwn, h1], e⟩
  · exact e.elim
 | .ept i g r c, k, e => by
  simp only [vDO] at e
  split at e
  · rename_i h1; exact ⟨_, by simp only [deepOwn, h1], e⟩
  · exact e.elim
 | .yld m num i, k, e => by
  simp only [vDO] at e
  split at e
  · rename_i h1; exact ⟨_, by simp only [deepOwn, h1], e⟩
  · exact e.elim
 | .rpt r c, k, e => ⟨_, rfl, e⟩
 | .agg cs, k, e => by
  simp only [vDO] at e
  obtain ⟨y, h1, e⟩ := vDOL_ok n h cs _ e
  exact ⟨_, by simp [deepOwn, h1], e⟩
 | .tup cs, k, e => by
  simp only [vDO] at e
  obtain ⟨y, h1, e⟩ := vDOL_ok n h cs _ e
  exact ⟨_, by simp [deepOwn, h1], e⟩
 | .fn m f a b, k, e => by
  simp only [vDO] at e
  obtain ⟨y, h1, e⟩ := vDOL_ok n h a _ e
  obtain ⟨z, h2, e⟩ := vDOL_ok n h b _ e
  exact ⟨_, by simp only [deepOwn, h1, h2], e⟩
 | .ifc t v, k, e => by
  simp only [vDO] at e
  obtain ⟨y, h1, e⟩ := vDO_ok n h v _ e
  exact ⟨_, by simp [deepOwn, h1], e⟩
 | .junk, k, e => ⟨_, rfl, e⟩
theorem vDOL_ok (n : Nat) (h : Heap) : ∀ (x : List AV) (k : List AV → Prop), vDOL n h x k → ∃ y, deepOwn.deepOwnL n h x = some y ∧ k y
 | [], k, e => ⟨_, rfl, e⟩
 | x :: xs, k, e => by
  simp only [vDOL] at e
  obtain ⟨y, h1, e⟩ := vDO_ok n h x _ e
  obtain ⟨z, h2, e⟩ := vDOL_ok n h xs _ e
  exact ⟨_, by simp only [deepOwn.deepOwnL, h1, h2], e⟩
end
def vDOH (n : Nat) (h : Heap) : Heap → (Heap → Prop) → Prop
 | [], k => k []
 | ⟨own, ty, .fix cs⟩ :: l, k => vDOL n h cs fun cs => vDOH n h l fun l => k (⟨own, ty, .fix cs⟩ :: l)
 | ⟨own, ty, .arr nl g sz rows⟩ :: l, k => vDOH n h l fun l => k (⟨own, ty, .arr nl g sz rows⟩ :: l)
 | ⟨own, ty, .lp num s cs⟩ :: l, k => vDOL n h cs fun cs => vDOH n h l fun l => k (⟨own, ty, .lp num s cs⟩ :: l)
theorem vDOH_ok (n : Nat) (h : Heap) : ∀ (x : Heap) (k : Heap → Prop), vDOH n h x k → ∃ y, deepOwnH n h x = some y ∧ k y
 | [], k, e => ⟨_, rfl, e⟩
 | ⟨own, ty, .fix cs⟩ :: l, k, e => by
  simp only [vDOH] at e
  obtain ⟨y, h1, e⟩ := vDOL_ok n h cs _ e
  obtain ⟨z, h2, e⟩ := vDOH_ok n h l _ e
  exact ⟨_, by simp only [deepOwnH, h1, h2], e⟩
 | ⟨own, ty, .arr nl g sz rows⟩ :: l, k, e => by
  simp only [vDOH] at e
  obtain ⟨z, h2, e⟩ := vDOH_ok n h l _ e
  exact ⟨_, by simp only [deepOwnH, h2], e⟩
 | ⟨own, ty, .lp num s cs⟩ :: l, k, e => by
  simp only [vDOH] at e
  obtain ⟨y, h1, e⟩ := vDOL_ok n h cs _ e
  obtain ⟨z, h2, e⟩ := vDOH_ok n h l _ e
  exact ⟨_, by simp only [deepOwnH, h1, h2], e⟩
def vCR (n : Nat) (h : Heap) (r : CR) (k : CR → Prop) : Prop := match r with
 | .ret v => vDO n h v fun v => k (.ret v)
 | .pan v => vDO n h v fun v => k (.pan v)
theorem vCR_ok {n : Nat} {h : Heap} {r : CR} {k : CR → Prop} (e : vCR n h r k) : ∃ c, r.map (deepOwn n h) = some c ∧ k c := by
 cases r with
 | ret v => obtain ⟨y, h1, e⟩ := vDO_ok n h v _ e; exact ⟨_, by simp [CR.map, h1], e⟩
 | pan v => obtain ⟨y, h1, e⟩ := vDO_ok n h v _ e; exact ⟨_, by simp [CR.map, h1], e⟩
def vBackO (h : Heap) (x : Handed) (r : CRes) (k : CRes → Prop) : Prop :=
 vq (renH (opnum h.length x.fp r.h.length) id r.h) fun g => vq (r.r.map (ren (opnum h.length x.fp r.h.length))) fun c =>
  vq (putBack h x.fp (g.take x.fp.length)) fun h' => k ⟨c, h' ++ g.drop x.fp.length, r.rc⟩
theorem vBackO_ok {h : Heap} {x : Handed} {r : CRes} {k : CRes → Prop} (e : vBackO h x r k) : ∃ q, back .opn h x r = some q ∧ k q := by
 unfold vBackO at e
 unfold back
 obtain ⟨g', h3, e⟩ := vq_ok e
 obtain ⟨c', h4, e⟩ := vq_ok e
 obtain ⟨h', h5, e⟩ := vq_ok e
 simp only [h3, h4, h5]
 exact ⟨_, rfl, e⟩
section
variable (F : Nat → Option Fn)
def Pur (f : Nat) (args : List AV) (h : Heap) (rc : Rec) (c : CR) (rc' : Rec) : Prop := ∃ r, CallsTo F f args h rc r ∧ r.r.map (deepOwn 0 r.h) = some c ∧ r.rc = rc'
def Drp (n : Nat) (f : Nat) (args : List AV) (h : Heap) (rc : Rec) (c : CR) (g : Heap) (rc' : Rec) : Prop :=
 ∃ r, CallsTo F f args h rc r ∧ r.r.map (deepOwn n r.h) = some c ∧ deepOwnH n r.h (r.h.take n) = some g ∧ r.rc = rc'
structure vpur (f : Nat) (args : List AV) (h : Heap) (rc : Rec) (k : CR → Rec → Prop) : Prop where
 out : ∃ c rc', Pur F f args h rc c rc' ∧ k c rc'
structure vdrp (n : Nat) (f : Nat) (args : List AV) (h : Heap) (rc : Rec) (k : CR → Heap → Rec → Prop) : Prop where
 out : ∃ c g rc', Drp F n f args h rc c g rc' ∧ k c g rc'
variable {F}
theorem vpur_i {f : Nat} {args : List AV} {h : Heap} {rc : Rec} {k : CR → Rec → Prop} {c : CR} {rc' : Rec} (hr : Pur F f args h rc c rc') (hk : k c rc') : vpur F f args h rc k := ⟨⟨c, rc', hr, hk⟩⟩
theorem vpur_ok {f : Nat} {args : List AV} {h : Heap} {rc : Rec} {k : CR → Rec → Prop} (e : vpur F f args h rc k) : ∃ c rc', Pur F f args h rc c rc' ∧ k c rc' := e.out
theorem vdrp_i {n f : Nat} {args : List AV} {h : Heap} {rc : Rec} {k : CR → Heap → Rec → Prop} {c : CR} {g : Heap} {rc' : Rec} (hr : Drp F n f args h rc c g rc') (hk : k c g rc') : vdrp F n f args h rc k := ⟨⟨c, g, rc', hr, hk⟩⟩
theorem vdrp_ok {n f : Nat} {args : List AV} {h : Heap} {rc : Rec} {k : CR → Heap → Rec → Prop} (e : vdrp F n f args h rc k) : ∃ c g rc', Drp F n f args h rc c g rc' ∧ k c g rc' := e.out
end
section
variable (F : Nat → Option Fn)
def vCallM (p : Bool) (m : Mode) (f : Nat) (args : List AV) (h : Heap) (rc : Rec) (k : CRes → Prop) : Prop :=
 match rc.loose with
 | false => False
 | true => match m with
  | .pure => vHand .pure h args fun x => vpur F f x.args x.h rc fun c rc' => match x.told with
   | [] => k ⟨c, h, rc'⟩
   | t :: l => match Ab.loose c.val, p with
    | true, _ => k ⟨c, h, rc'⟩
    | false, true => False
    | false, false => k ⟨c, Ab.freeze h (t :: l), rc'⟩
  | .drop => match p with
   | true => False
   | false => vHand .drop h args fun x => vdrp F x.fp.length f x.args x.h rc fun c g rc' =>
    vq (renH (x.fp[·]?) id g) fun g => vq (c.map (ren (x.fp[·]?))) fun c => vq (putBack h x.fp g) fun h => k ⟨c, h, rc'⟩
  | .opn => match p with
   | true => False
   | false => vHand .opn h args fun x => vcall F f x.args x.h rc fun r => vBackO h x r k
variable {F}
theorem callM_pure {X : CallF} {p : Bool} {f : Nat} {args : List AV} {h : Heap} {rc : Rec} {x : Handed} {r0 q : CRes} (h1 : hand .pure h args = some x) (hl : rc.loose = true) (hr : X f x.args x.h rc = some r0)
 (hb : back .pure h x r0 = some q) (hq : x.told = [] ∨ Ab.loose q.r.val = true ∨ p = false) : callM X p .pure f args h rc = some q := by
 cases p
 · simp only [callM, h1, hl, hr, hb]
 · simp only [callM, h1, hl, hr, hb]
   rcases hq with hq | hq | hq
   · rw [hq]
   · rw [hq]
     split
     · rename_i h; cases h
     · rfl
   · cases hq
theorem vCallM_ok {p : Bool} {m : Mode} {f : Nat} {args : List AV} {h : Heap} {rc : Rec} {k : CRes → Prop} (e : vCallM F p m f args h rc k) : ∃ n r, callM (ext F n).call p m f args h rc = some r ∧ k r := by
 unfold vCallM at e
 cases hl : rc.loose with
 | false => rw [hl] at e; exact e.elim
 | true =>
  rw [hl] at e
  simp only at e
  cases m with
  | pure =>
   obtain ⟨x, h1, e⟩ := vHand_ok e
   obtain ⟨c, rc', ⟨r, ⟨n, hr⟩, hm, rfl⟩, e⟩ := vpur_ok e
   cases ht : x.told with
   | nil =>
    rw [ht] at e
    refine ⟨n, ⟨c, h, r.rc⟩, callM_pure h1 hl hr ?_ (.inl ht), e⟩
    simp only [back, hm, ht]
    cases Ab.loose c.val <;> rfl
   | cons t l =>
    rw [ht] at e
    simp only at e
    cases hlo : Ab.loose c.val with
    | true =>
     rw [hlo] at e
     exact ⟨n, ⟨c, h, r.rc⟩, callM_pure h1 hl hr (by simp only [back, hm, ht, hlo]) (.inr (.inl hlo)), e⟩
    | false =>
     rw [hlo] at e
     cases p with
     | true => exact e.elim
     | false => exact ⟨n, ⟨c, Ab.freeze h (t :: l), r.rc⟩, callM_pure h1 hl hr (by simp only [back, hm, ht, hlo]) (.inr (.inr rfl)), e⟩
  | drop =>
   cases p with
   | true => exact e.elim
   | false =>
    obtain ⟨x, h1, e⟩ := vHand_ok e
    obtain ⟨c, g, rc', ⟨r, ⟨n, hr⟩, hm, hg, rfl⟩, e⟩ := vdrp_ok e
    obtain ⟨g', h3, e⟩ := vq_ok e
    obtain ⟨c', h4, e⟩ := vq_ok e
    obtain ⟨h', h5, e⟩ := vq_ok e
    refine ⟨n, ⟨c', h', r.rc⟩, ?_, e⟩
    simp only [callM, h1, hl, hr, back, hm, hg, h3, h4, h5]
  | opn =>
   cases p with
   | true => exact e.elim
   | false =>
    obtain ⟨x, h1, e⟩ := vHand_ok e
    rw [vcall_eq] at e
    obtain ⟨r, ⟨n, hr⟩, e⟩ := e
    obtain ⟨q, h4, e⟩ := vBackO_ok e
    refine ⟨n, q, ?_, e⟩
    simp only [callM, h1, hl, hr, h4]
def fo : AV → Option AV
 | .d v => some (.d v)
 | .ptr i c => some (.ptr i c)
 | .ept i g r c => some (.ept i g r c)
 | .rpt r c => some (.rpt r c)
 | .osl i g lo hi => some (.osl i g lo hi)
 | .agg cs => some (.agg cs)
 | .tup vs => some (.tup vs)
 | .fn m f a b => some (.fn m f a b)
 | .yld m n i => some (.yld m n i)
 | .ifc t v => some (.ifc t v)
 | .junk => some .junk
theorem fo_eq (x : AV) : fo x = some x := by cases x <;> rfl
def vRens (m : Nat → Option Nat) : List AV → (List AV → Prop) → Prop
 | [], k => k []
 | x :: l, k => vq (ren m x) fun x => vq (fo x) fun x => vRens m l fun l => k (x :: l)
theorem vRens_ok {m : Nat → Option Nat} : ∀ (xs : List AV) (k : List AV → Prop), vRens m xs k → ∃ ys, ren.renL m xs = some ys ∧ k ys
 | [], k, e => ⟨_, rfl, e⟩
 | x :: l, k, e => by
  simp only [vRens] at e
  obtain ⟨y, h1, e⟩ := vq_ok e
  obtain ⟨z, h2, e⟩ := vq_ok e
  rw [fo_eq] at h2
  cases h2
  obtain ⟨ys, h3, e⟩ := vRens_ok l _ e
  exact ⟨_, by simp only [ren.renL, h1, h3], e⟩
def vGH (h : Heap) (m : Nat → Option Nat) : List Nat → (Heap → Prop) → Prop
 | [], k => k []
 | i :: l, k => match h[i]? with
  | some ⟨ow, ty, .fix cs⟩ => vRens m cs fun cs => vGH h m l fun g => k (⟨ow, ty, .fix cs⟩ :: g)
  | some ⟨ow, ty, .arr nl g sz rows⟩ => vGH h m l fun r => k (⟨ow, ty, .arr nl g sz rows⟩ :: r)
  | some ⟨ow, ty, .lp num s cs⟩ => vRens m cs fun cs => vGH h m l fun g => k (⟨ow, ty, .lp num s cs⟩ :: g)
  | none => False
theorem vGH_ok {h : Heap} {m : Nat → Option Nat} : ∀ (l : List Nat) (k : Heap → Prop), vGH h m l k → ∃ g g', gather h l = some g ∧ renH m id g = some g' ∧ k g'
 | [], k, e => ⟨_, _, rfl, rfl, e⟩
 | i :: l, k, e => by
  simp only [vGH] at e
  split at e
  · rename_i ow ty cs h1
    obtain ⟨cs', h2, e⟩ := vRens_ok _ _ e
    obtain ⟨g, g', h3, h4, e⟩ := vGH_ok l _ e
    exact ⟨⟨ow, ty, .fix cs⟩ :: g, ⟨ow, ty, .fix cs'⟩ :: g', by simp only [gather, h1, h3], by simp only [renH, renO, h2, h4, Option.map_some, id], e⟩
  · rename_i ow ty nl gg sz rows h1
    obtain ⟨g, g', h3, h4, e⟩ := vGH_ok l _ e
    exact ⟨⟨ow, ty, .arr nl gg sz rows⟩ :: g, ⟨ow, ty, .arr nl gg sz rows⟩ :: g', by simp only [gather, h1, h3], by simp only [renH, renO, h4, id], e⟩
  · rename_i ow ty num s cs h1
    obtain ⟨cs', h2, e⟩ := vRens_ok _ _ e
    obtain ⟨g, g', h3, h4, e⟩ := vGH_ok l _ e
    exact ⟨⟨ow, ty, .lp num s cs⟩ :: g, ⟨ow, ty, .lp num s cs'⟩ :: g', by simp only [gather, h1, h3], by simp only [renH, renO, h2, h4, Option.map_some, id], e⟩
  · exact e.elim
def vGV (fp : List Nat) (fr : Nat → AV) : List Nat → (List (Nat × AV) → Prop) → Prop
 | [], k => k []
 | t :: l, k => vq (ren (place · fp) (fr t)) fun v => vq (fo v) fun v => vGV fp fr l fun r => k ((t, v) :: r)
theorem vGV_ok {fp : List Nat} {fr : Nat → AV} : ∀ (l : List Nat) (k : List (Nat × AV) → Prop), vGV fp fr l k → ∃ vs, gcv fp fr l = some vs ∧ k vs
 | [], k, e => ⟨_, rfl, e⟩
 | t :: l, k, e => by
  simp only [vGV] at e
  obtain ⟨y, h1, e⟩ := vq_ok e
  obtain ⟨z, h2, e⟩ := vq_ok e
  rw [fo_eq] at h2
  cases h2
  obtain ⟨ys, h3, e⟩ := vGV_ok l _ e
  exact ⟨_, by simp only [gcv, h1, h3], e⟩
def vGc (keep : List Nat) (n0 : Nat) (fr : Nat → AV) (h : Heap) (ds : List (Mode × Nat × List AV)) (K : List (Nat × AV) → Heap → List (Mode × Nat × List AV) → Prop) : Prop :=
 vq (reach h 1000 (upto n0 ++ frRefs fr keep ++ dsRefs ds) []) fun fp => match preOk n0 fp with
  | true => vGV fp fr keep fun vs => vGH h (place · fp) fp fun g => vq (gcd fp ds) fun ds => K vs g ds
  | false => False
theorem vGc_ok {keep : List Nat} {n0 : Nat} {fr : Nat → AV} {h : Heap} {ds : List (Mode × Nat × List AV)} {rc : Rec} {K : List (Nat × AV) → Heap → List (Mode × Nat × List AV) → Prop} (e : vGc keep n0 fr h ds K) :
 ∃ vs g ds', gc keep ⟨fr, h, ds, rc, n0⟩ = some ⟨look vs, g, ds', rc, n0⟩ ∧ K vs g ds' := by
 unfold vGc at e
 obtain ⟨fp, h1, e⟩ := vq_ok e
 split at e
 · rename_i h2
   obtain ⟨vs, h3, e⟩ := vGV_ok _ _ e
   obtain ⟨g, g', h4, h5, e⟩ := vGH_ok _ _ e
   obtain ⟨ds', h6, e⟩ := vq_ok e
   exact ⟨vs, g', ds', by simp only [gc, h1, h2, h3, h4, h5, h6], e⟩
 · exact e.elim
abbrev KK := Ex → (Nat → AV) → Heap → List (Mode × Nat × List AV) → Rec → Prop
def vGuard (gd : Option (Nat × Bool)) (fr : Nat → AV) (k : Bool → Prop) : Prop := match gd with
 | none => k true
 | some (g, w) => match fr g with
  | .d (.bool b) => match w with
   | true => vb b k
   | false => vb b fun b => k (!b)
  | .tup [] => k false
  | _ => False
theorem vGuard_ok {i : Ins} {st : St} {k : Bool → Prop} (e : vGuard i.gd st.fr k) : ∃ b, guarded i st = some b ∧ k b := by
 unfold vGuard at e
 unfold guarded
 split at e
 · rename_i h; simp only [h]; exact ⟨_, rfl, e⟩
 · rename_i g w h
   simp only [h]
   split at e
   · rename_i b h1
     simp only [h1]
     cases w <;> (simp only at e; rw [vb_eq] at e; exact ⟨_, rfl, e⟩)
   · rename_i h1; simp only [h1]; exact ⟨_, rfl, e⟩
   · exact e.elim
def isRnd : Rec → Bool
 | .rnd => true
 | _ => false
theorem isRnd_ne {rc : Rec} (h : isRnd rc = false) : rc ≠ .rnd := fun e => by rw [e] at h; cases h
variable (F)
def kCall (draw : Bool) (act : Act) (dst : Option Nat) (fr : Nat → AV) (ds : List (Mode × Nat × List AV)) (rc : Rec) (K : KK) : CRes → Prop
 | ⟨.ret x, h, _⟩ => K .nor (put fr dst x) h ds rc
 | ⟨.pan x, h, _⟩ => match draw, isD act with
  | true, false => False
  | _, _ => K (.pan x) fr h ds rc
def kStep (draw : Bool) (act : Act) (dst : Option Nat) (fr : Nat → AV) (h0 : Heap) (ds : List (Mode × Nat × List AV)) (rc : Rec) (K : KK) : OR → Prop
 | .v x h => K .nor (put fr dst x) h ds rc
 | .pan x => match draw with
  | true => False
  | false => K (.pan x) fr h0 ds rc
 | .call p m f args => vCallM F p m f args h0 .no (kCall draw act dst fr ds rc K)
 | .dfr m f args => match draw with
  | true => False
  | false => match isRnd rc with
   | true => False
   | false => K .nor (put fr dst (.tup [])) h0 ((m, f, args) :: ds) rc
 | .recov => match draw with
  | true => False
  | false => match rc with
   | .live v => K .nor (put fr dst v) h0 ds .took
   | .no => K .nor (put fr dst (.d .nili)) h0 ds .no
   | .calm => K .nor (put fr dst (.d .nili)) h0 ds .calm
   | .took => K .nor (put fr dst (.d .nili)) h0 ds .took
   | .rnd => False
def vStep (draw : Bool) (dst : Option Nat) (act : Act) (xs : List Opd) (fr : Nat → AV) (h : Heap) (ds : List (Mode × Nat × List AV)) (rc : Rec) (K : KK) : Prop :=
 match clearI act fr h (evs fr xs) with
 | true => vOp h act (evs fr xs) (kStep F draw act dst fr h ds rc K)
 | false => False
variable {F}
theorem vStep_ok {n0 : Nat} {draw : Bool} {i : Ins} {fr : Nat → AV} {h : Heap} {ds : List (Mode × Nat × List AV)} {rc : Rec} {K : KK} (e : vStep F draw i.dst i.act i.xs fr h ds rc K) :
 ∃ n ex fr' h' ds' rc', stepI (ext F n) draw i ⟨fr, h, ds, rc, n0⟩ = some (ex, ⟨fr', h', ds', rc', n0⟩) ∧ K ex fr' h' ds' rc' := by
 unfold vStep at e
 split at e
 rotate_left
 · exact e.elim
 rename_i hcl
 obtain ⟨r, h1, e⟩ := vOp_ok e
 unfold stepI
 simp only [hcl, h1]
 cases r with
 | v x h => exact ⟨0, _, _, _, _, _, rfl, e⟩
 | pan x =>
  cases draw
  · exact ⟨0, _, _, _, _, _, rfl, e⟩
  · exact e.elim
 | call p m f args =>
  simp only [kStep] at e
  obtain ⟨n, r, h2, e⟩ := vCallM_ok e
  refine ⟨n, ?_⟩
  simp only [h2]
  obtain ⟨c, h, rc⟩ := r
  cases c
  · exact ⟨_, _, _, _, _, rfl, e⟩
  · simp only [kCall] at e
    cases draw <;> cases hd : isD i.act <;> rw [hd] at e
    · exact ⟨_, _, _, _, _, rfl, e⟩
    · exact ⟨_, _, _, _, _, rfl, e⟩
    · exact e.elim
    · exact ⟨_, _, _, _, _, rfl, e⟩
 | dfr m f args =>
  cases draw
  · cases rc <;> first | exact ⟨0, _, _, _, _, _, rfl, e⟩ | exact e.elim
  · exact e.elim
 | recov =>
  cases draw
  · cases rc <;> first | exact ⟨0, _, _, _, _, _, rfl, e⟩ | exact e.elim
  · exact e.elim
variable (F)
abbrev VV := (Nat → AV) → Heap → List (Mode × Nat × List AV) → Rec → KK → Prop
def kSeq (V : VV) (K : KK) : KK := fun ex fr h ds rc => match ex with
 | .nor => V fr h ds rc K
 | ex => K ex fr h ds rc
def kGd (draw : Bool) (dst : Option Nat) (act : Act) (xs : List Opd) (V : VV) (fr : Nat → AV) (h : Heap) (ds : List (Mode × Nat × List AV)) (rc : Rec) (K : KK) : Bool → Prop
 | true => vStep F draw dst act xs fr h ds rc (kSeq V K)
 | false => V (put fr dst (.tup [])) h ds rc K
def vI (draw : Bool) : List Ins → (Nat → AV) → Heap → List (Mode × Nat × List AV) → Rec → KK → Prop
 | [], fr, h, ds, rc, K => K .nor fr h ds rc
 | ⟨dst, gd, act, xs⟩ :: is, fr, h, ds, rc, K => vGuard gd fr (kGd F draw dst act xs (vI draw is) fr h ds rc K)
variable {F}
theorem vI_ok {n0 : Nat} {draw : Bool} : ∀ (is : List Ins) (fr : Nat → AV) (h : Heap) (ds : List (Mode × Nat × List AV)) (rc : Rec) (K : KK), vI F draw is fr h ds rc K →
 ∃ n ex fr' h' ds' rc', runI (ext F n) draw is ⟨fr, h, ds, rc, n0⟩ = some (ex, ⟨fr', h', ds', rc', n0⟩) ∧ K ex fr' h' ds' rc'
 | [], fr, h, ds, rc, K, e => ⟨0, _, _, _, _, _, rfl, e⟩
 | ⟨dst, gd, act, xs⟩ :: is, fr, h, ds, rc, K, e => by
  simp only [vI] at e
  obtain ⟨b, h1, e⟩ := vGuard_ok (i := ⟨dst, gd, act, xs⟩) (st := ⟨fr, h, ds, rc, n0⟩) e
  simp only [runI, h1]
  cases b
  · simp only [kGd] at e ⊢
    exact vI_ok is _ _ _ _ K e
  · simp only [kGd] at e
    obtain ⟨n, ex, fr', h', ds', rc', h2, e⟩ := vStep_ok (n0 := n0) (i := ⟨dst, gd, act, xs⟩) e
    cases ex with
    | nor =>
     simp only [kSeq] at e
     obtain ⟨m, ex, fr2, hp2, ds2, rc2, h3, e⟩ := vI_ok (n0 := n0) is _ _ _ _ K e
     refine ⟨max n m, ex, fr2, hp2, ds2, rc2, ?_, e⟩
     simp only [stepI_le (ext_le (Nat.le_max_left n m)) h2]
     exact runI_le (ext_le (Nat.le_max_right n m)) h3
    | exit id => exact ⟨n, _, _, _, _, _, by simp only [h2], e⟩
    | ret => exact ⟨n, _, _, _, _, _, by simp only [h2], e⟩
    | pan v => exact ⟨n, _, _, _, _, _, by simp only [h2], e⟩
def vChk (f : Nat → AV) (l : List (Nat × Nat × Nat × Nat)) (k : Prop) : Prop := match l with
 | [] => k
 | l => vt (checks f l) k
theorem vChk_ok {f : Nat → AV} {l : List (Nat × Nat × Nat × Nat)} {k : Prop} (e : vChk f l k) : checks f l = true ∧ k := by
 unfold vChk at e
 split at e
 · exact ⟨rfl, e⟩
 · exact vt_ok e
def vExit (id id' : Nat) (fr : Nat → AV) (h : Heap) (ds : List (Mode × Nat × List AV)) (rc : Rec) (K : KK) : Prop := match Nat.beq id id' with
 | true => K .nor fr h ds rc
 | false => K (.exit id') fr h ds rc
def kChk (chk : List (Nat × Nat × Nat × Nat)) (is : List Ins) (K : KK) : KK := fun ex fr h ds rc => match ex with
 | .nor => vChk fr chk (K .nor fr h ds rc)
 | .pan v => K (.pan v) (junkD is fr) h ds rc
 | _ => False
def kCond (V W : VV) (fr : Nat → AV) (h : Heap) (ds : List (Mode × Nat × List AV)) (rc : Rec) (K : KK) : Bool → Prop
 | true => V fr h ds rc K
 | false => W fr h ds rc K
def kBlock (id : Nat) (K : KK) : KK := fun ex fr h ds rc => match ex with
 | .exit id' => vExit id id' fr h ds rc K
 | ex => K ex fr h ds rc
def kLoop (K : KK) : Ex → St → Prop := fun ex st => K ex st.fr st.h st.ds st.rc
def kFgt (rc : Rec) (K : KK) : List (Nat × AV) → Heap → List (Mode × Nat × List AV) → Prop := fun vs h ds => K .nor (look vs) h ds rc
def kRng (i : Nat) (fr : Nat → AV) (ds : List (Mode × Nat × List AV)) (rc : Rec) (K : KK) : CRes → Prop
 | ⟨.ret _, h, _⟩ => vq (rngEnd i h) fun q => K q.1 fr q.2 ds rc
 | _ => False
variable (F)
def vRng (num : Nat) (keep : List Nat) (f : AV) (fr : Nat → AV) (h : Heap) (ds : List (Mode × Nat × List AV)) (rc : Rec) (K : KK) : Prop := match isRnd rc with
 | true => False
 | false => match f with
  | .fn m ff first cap => match Nat.blt ff 1048576 with
   | true => vCallM F false m ff (first ++ [.yld .opn num (h.length + 1)] ++ cap) (rngH num keep fr h) .no (kRng (h.length + 1) fr (rngDs h.length :: ds) rc K)
   | false => False
  | _ => False
def kLoopAt (n0 : Nat) (keep : List Nat) (c : CC) (rc : Rec) (K : KK) : List (Nat × AV) → Heap → List (Mode × Nat × List AV) → Prop := fun vs h ds => vloop F keep c ⟨look vs, h, ds, rc, n0⟩ (kLoop K)
def vC (n0 : Nat) : CC → (Nat → AV) → Heap → List (Mode × Nat × List AV) → Rec → KK → Prop
 | .skip, fr, h, ds, rc, K => K .nor fr h ds rc
 | .reg none is, fr, h, ds, rc, K => vI F false is fr h ds rc K
 | .reg (some chk) is, fr, h, ds, rc, K => vI F true is fr h ds rc (kChk chk is K)
 | .seq a b, fr, h, ds, rc, K => vC n0 a fr h ds rc (kSeq (vC n0 b) K)
 | .cond c x y, fr, h, ds, rc, K => match ev fr c with
  | .d (.bool b) => vb b (kCond (vC n0 x) (vC n0 y) fr h ds rc K)
  | _ => False
 | .block id c, fr, h, ds, rc, K => vC n0 c fr h ds rc (kBlock id K)
 | .rng num keep f, fr, h, ds, rc, K => vRng F num keep (ev fr f) fr h ds rc K
 | .loop keep c, fr, h, ds, rc, K => vGc keep n0 fr h ds (kLoopAt F n0 keep c rc K)
 | .fgt keep, fr, h, ds, rc, K => vGc keep n0 fr h ds (kFgt rc K)
 | .exit id, fr, h, ds, rc, K => K (.exit id) fr h ds rc
 | .ret, fr, h, ds, rc, K => K .ret fr h ds rc
 | .bad, fr, h, ds, rc, K => False
variable {F}
theorem vC_ok {n0 : Nat} : ∀ (c : CC) (fr : Nat → AV) (h : Heap) (ds : List (Mode × Nat × List AV)) (rc : Rec) (K : KK), vC F n0 c fr h ds rc K →
 ∃ n ex st', runC (ext F n) c ⟨fr, h, ds, rc, n0⟩ = some (ex, st') ∧ K ex st'.fr st'.h st'.ds st'.rc
 | .skip, fr, h, ds, rc, K, e => ⟨0, _, _, rfl, e⟩
 | .reg none is, fr, h, ds, rc, K, e => by
  simp only [vC] at e
  simp only [runC]
  obtain ⟨n, ex, fr', h', ds', rc', h1, e⟩ := vI_ok (n0 := n0) is _ _ _ _ K e
  exact ⟨n, ex, _, h1, e⟩
 | .reg (some chk) is, fr, h, ds, rc, K, e => by
  simp only [vC] at e
  obtain ⟨n, ex, fr', h', ds', rc', h1, e⟩ := vI_ok (n0 := n0) is _ _ _ _ _ e
  simp only [runC]
  cases ex with
  | nor =>
   simp only [kChk] at e
   obtain ⟨h2, e⟩ := vChk_ok e
   exact ⟨n, .nor, ⟨fr', h', ds', rc', n0⟩, by simp only [h1, h2], e⟩
  | pan v => exact ⟨n, .pan v, ⟨junkD is fr', h', ds', rc', n0⟩, by simp only [h1], e⟩
  | _ => exact e.elim
 | .seq a b, fr, h, ds, rc, K, e => by
  simp only [vC] at e
  obtain ⟨n, ex, st', h1, e⟩ := vC_ok a _ _ _ _ _ e
  simp only [runC]
  cases ex with
  | nor =>
   simp only [kSeq] at e
   have hn : st'.n0 = n0 := runC_n0 ext_n0 _ _ _ _ h1
   obtain ⟨m, ex, st2, h2, e⟩ := vC_ok b _ _ _ _ _ e
   refine ⟨max n m, ex, st2, ?_, e⟩
   simp only [runC_le (ext_le (Nat.le_max_left n m)) h1]
   have : st' = ⟨st'.fr, st'.h, st'.ds, st'.rc, n0⟩ := by rw [← hn]
   rw [this]
   exact runC_le (ext_le (Nat.le_max_right n m)) h2
  | exit id => exact ⟨n, _, _, by simp only [h1], e⟩
  | ret => exact ⟨n, _, _, by simp only [h1], e⟩
  | pan v => exact ⟨n, _, _, by simp only [h1], e⟩
 | .cond c x y, fr, h, ds, rc, K, e => by
  simp only [vC] at e
  simp only [runC]
  split at e
  · rename_i b hb
    rw [vb_eq] at e
    simp only [hb]
    cases b
    · exact vC_ok y _ _ _ _ K e
    · exact vC_ok x _ _ _ _ K e
  · exact e.elim
 | .block id c, fr, h, ds, rc, K, e => by
  simp only [vC] at e
  obtain ⟨n, ex, st', h1, e⟩ := vC_ok c _ _ _ _ _ e
  simp only [runC]
  cases ex with
  | nor => exact ⟨n, _, _, by simp only [h1], e⟩
  | exit id' =>
   refine ⟨n, ?_⟩
   simp only [h1]
   simp only [kBlock, vExit] at e
   cases hb : Nat.beq id id' <;> rw [hb] at e <;> exact ⟨_, _, rfl, e⟩
  | ret => exact ⟨n, _, _, by simp only [h1], e⟩
  | pan v => exact ⟨n, _, _, by simp only [h1], e⟩
 | .rng num keep f, fr, h, ds, rc, K, e => by
  simp only [vC, vRng] at e
  cases hir : isRnd rc with
  | true => rw [hir] at e; exact e.elim
  | false =>
   rw [hir] at e
   simp only at e
   have hr := isRnd_ne hir
   split at e
   · rename_i m ff first cap hf
     split at e
     · rename_i hlt
       obtain ⟨n, r, h1, e⟩ := vCallM_ok e
       obtain ⟨c, h', rc'⟩ := r
       cases c with
       | ret x =>
        obtain ⟨q, h2, e⟩ := vq_ok e
        refine ⟨n, q.1, ⟨fr, q.2, rngDs h.length :: ds, rc, n0⟩, ?_, e⟩
        cases rc <;> first
         | exact (hr rfl).elim
         | simp only [runC, hf, hlt, h1, h2]
       | pan v => exact e.elim
     · exact e.elim
   · exact e.elim
 | .loop keep c, fr, h, ds, rc, K, e => by
  simp only [vC] at e
  obtain ⟨vs, g, ds', h0, e⟩ := vGc_ok (rc := rc) e
  unfold kLoopAt at e
  rw [vloop_eq] at e
  obtain ⟨ex, st', ⟨n, h1⟩, e⟩ := e
  exact ⟨n, ex, st', by simp only [runC, h0]; exact h1, e⟩
 | .fgt keep, fr, h, ds, rc, K, e => by
  simp only [vC] at e
  obtain ⟨vs, g, ds', h0, e⟩ := vGc_ok (rc := rc) e
  exact ⟨0, .nor, ⟨look vs, g, ds', rc, n0⟩, by simp only [runC, h0], e⟩
 | .exit id, fr, h, ds, rc, K, e => ⟨0, _, _, rfl, e⟩
 | .ret, fr, h, ds, rc, K, e => ⟨0, _, _, rfl, e⟩
 | .bad, fr, h, ds, rc, K, e => by simp only [vC] at e
variable (F)
def rcOf : Option AV → Rec
 | none => .calm
 | some v => .live v
def vUnw : List (Mode × Nat × List AV) → Option AV → Heap → (Option AV → Heap → Prop) → Prop
 | [], p, h, k => k p h
 | (m, f, args) :: ds, p, h, k => match Nat.beq f 2097152 with
  | true => vq (takeD h args) fun h => vUnw ds p h k
  | false => vCallM F false m f args h (rcOf p) fun
   | ⟨.ret _, h, .calm⟩ => match p with
    | none => vUnw ds none h k
    | some _ => False
   | ⟨.ret _, h, .took⟩ => match p with
    | none => False
    | some _ => vUnw ds none h k
   | ⟨.ret _, h, .live v⟩ => match p with
    | none => False
    | some _ => vUnw ds (some v) h k
   | _ => False
variable {F}
theorem vUnw_ok : ∀ (ds : List (Mode × Nat × List AV)) (p : Option AV) (h : Heap) (k : Option AV → Heap → Prop), vUnw F ds p h k → ∃ n p' h', unwind (ext F n).call ds p h = some (p', h') ∧ k p' h'
 | [], p, h, k, e => ⟨0, p, h, by cases p <;> rfl, e⟩
 | (m, f, args) :: ds, p, h, k, e => by
  simp only [vUnw] at e
  cases hf : Nat.beq f 2097152 with
  | true =>
   rw [hf] at e
   obtain ⟨h2, h3, e⟩ := vq_ok e
   obtain ⟨n, p', h', h4, e⟩ := vUnw_ok ds p h2 k e
   exact ⟨n, p', h', by simp only [unwind, hf, h3]; exact h4, e⟩
  | false =>
  rw [hf] at e
  obtain ⟨n, r, h1, e⟩ := vCallM_ok e
  have fin : ∀ (p' : Option AV) (hp : Heap), vUnw F ds p' hp k → (∀ n', unwind (ext F (max n n')).call ((m, f, args) :: ds) p h = unwind (ext F (max n n')).call ds p' hp) →
   ∃ n p' h', unwind (ext F n).call ((m, f, args) :: ds) p h = some (p', h') ∧ k p' h' := by
   intro p' hp hv hs
   obtain ⟨n', p2, h2, h3, e⟩ := vUnw_ok ds p' hp k hv
   exact ⟨max n n', p2, h2, by rw [hs]; exact unwind_le (ext_le (Nat.le_max_right n n')).call h3, e⟩
  have hle : ∀ n', callM (ext F (max n n')).call false m f args h (rcOf p) = some r := fun n' => callM_le (ext_le (Nat.le_max_left n n')).call h1
  cases p with
  | none =>
   have hle : ∀ n', callM (ext F (max n n')).call false m f args h .calm = some r := hle
   obtain ⟨c, hp, rc⟩ := r
   cases c <;> cases rc <;> try exact e.elim
   exact fin _ _ e fun n' => by simp only [unwind, hf, hle]
  | some u =>
   have hle : ∀ n', callM (ext F (max n n')).call false m f args h (.live u) = some r := hle
   obtain ⟨c, hp, rc⟩ := r
   cases c <;> cases rc <;> try exact e.elim
   · exact fin _ _ e fun n' => by simp only [unwind, hf, hle]
   · exact fin _ _ e fun n' => by simp only [unwind, hf, hle]
def vRes (fr : Nat → AV) (h : Heap) : List RV → (List AV → Prop) → Prop
 | [], k => k []
 | .tmp t :: l, k => vq (force (fr t)) fun x => vRes fr h l fun l => k (x :: l)
 | .cell a n :: l, k => vload h n (fr a) fun x => vq (force x) fun x => vRes fr h l fun l => k (x :: l)
theorem vRes_ok {fr : Nat → AV} {h : Heap} : ∀ (l : List RV) (k : List AV → Prop), vRes fr h l k → ∃ r, readRes fr h l = some r ∧ k r
 | [], k, e => ⟨_, rfl, e⟩
 | .tmp t :: l, k, e => by
  simp only [vRes] at e
  obtain ⟨x, h1, e⟩ := vq_ok e
  obtain ⟨y, h2, e⟩ := vRes_ok l _ e
  exact ⟨_, by simp only [readRes, h1, h2], e⟩
 | .cell a n :: l, k, e => by
  simp only [vRes] at e
  obtain ⟨x, h1, e⟩ := vload_ok e
  obtain ⟨x', h3, e⟩ := vq_ok e
  obtain ⟨y, h2, e⟩ := vRes_ok l _ e
  exact ⟨_, by simp only [readRes, h1, h3, h2], e⟩
variable (F)
def vFin (res : List RV) (ex : Ex) (fr : Nat → AV) (h : Heap) (ds : List (Mode × Nat × List AV)) (rc : Rec) (k : CRes → Prop) : Prop := match ex with
 | .exit _ => False
 | .pan v => vUnw F ds (some v) h fun p h => match p with
  | some v => k ⟨.pan v, h, rc⟩
  | none => vRes fr h res fun l => k ⟨.ret (oneOf l), h, rc⟩
 | .nor => vUnw F ds none h fun p h => match p with
  | some _ => False
  | none => vRes fr h res fun l => k ⟨.ret (oneOf l), h, rc⟩
 | .ret => vUnw F ds none h fun p h => match p with
  | some _ => False
  | none => vRes fr h res fun l => k ⟨.ret (oneOf l), h, rc⟩
variable {F}
theorem vFin_ok {res : List RV} {ex : Ex} {st : St} {k : CRes → Prop} (e : vFin F res ex st.fr st.h st.ds st.rc k) : ∃ n r, finish (ext F n).call res ex st = some r ∧ k r := by
 unfold vFin at e
 unfold finish
 split at e
 · exact e.elim
 · obtain ⟨n, p, h, h1, e⟩ := vUnw_ok _ _ _ _ e
   refine ⟨n, ?_⟩
   simp only [h1]
   cases p with
   | some v => exact ⟨_, rfl, e⟩
   | none => obtain ⟨l, h2, e⟩ := vRes_ok _ _ e; simp only [h2]; exact ⟨_, rfl, e⟩
 · obtain ⟨n, p, h, h1, e⟩ := vUnw_ok _ _ _ _ e
   refine ⟨n, ?_⟩
   simp only [h1]
   cases p with
   | some v => exact e.elim
   | none => obtain ⟨l, h2, e⟩ := vRes_ok _ _ e; simp only [h2]; exact ⟨_, rfl, e⟩
 · obtain ⟨n, p, h, h1, e⟩ := vUnw_ok _ _ _ _ e
   refine ⟨n, ?_⟩
   simp only [h1]
   cases p with
   | some v => exact e.elim
   | none => obtain ⟨l, h2, e⟩ := vRes_ok _ _ e; simp only [h2]; exact ⟨_, rfl, e⟩
variable (F)
def kFin (res : List RV) (Q : CRes → Prop) : KK := fun ex fr h ds rc => vFin F res ex fr h ds rc Q
def qCall (r : CRes) : CRes → Prop := fun q => q = r
def qPur2 (c : CR) (rc : Rec) (rc' : Rec) : CR → Prop := fun q => q = c ∧ rc = rc'
def qPur (c : CR) (rc' : Rec) : CRes → Prop := fun r => vCR 0 r.h r.r (qPur2 c r.rc rc')
def qDrp3 (c : CR) (g : Heap) (q : CR) (rc rc' : Rec) : Heap → Prop := fun g' => q = c ∧ g' = g ∧ rc = rc'
def qDrp2 (n : Nat) (c : CR) (g : Heap) (h : Heap) (rc rc' : Rec) : CR → Prop := fun q => vDOH n h (h.take n) (qDrp3 c g q rc rc')
def qDrp (n : Nat) (c : CR) (g : Heap) (rc' : Rec) : CRes → Prop := fun r => vCR n r.h r.r (qDrp2 n c g r.h r.rc rc')
variable {F}
theorem calls_some {f : Nat} {cf : CFn} (hf : F f = some (.code cf)) {args : List AV} {h : Heap} {rc : Rec} {Q : CRes → Prop}
 (e : vC F h.length cf.body (args0 args) h [] rc (kFin F cf.res Q)) : ∃ r, CallsTo F f args h rc r ∧ Q r := by
 obtain ⟨n, ex, st, h1, e⟩ := vC_ok _ _ _ _ _ _ e
 obtain ⟨m, r, h2, e⟩ := vFin_ok e
 refine ⟨r, ⟨max n m + 1, ?_⟩, e⟩
 simp only [ext, bodyF, hf, runC_le (ext_le (Nat.le_max_left n m)) h1]
 exact finish_le (ext_le (Nat.le_max_right n m)).call h2
theorem calls_code {f : Nat} {cf : CFn} (hf : F f = some (.code cf)) {args : List AV} {h : Heap} {rc : Rec} {r : CRes}
 (e : vC F h.length cf.body (args0 args) h [] rc (kFin F cf.res (qCall r))) : CallsTo F f args h rc r := by
 obtain ⟨q, h1, rfl⟩ := calls_some hf e
 exact h1
theorem pur_code {f : Nat} {cf : CFn} (hf : F f = some (.code cf)) {args : List AV} {h : Heap} {rc : Rec} {c : CR} {rc' : Rec}
 (e : vC F h.length cf.body (args0 args) h [] rc (kFin F cf.res (qPur c rc'))) : Pur F f args h rc c rc' := by
 obtain ⟨r, h1, e⟩ := calls_some hf e
 obtain ⟨q, h2, rfl, rfl⟩ := vCR_ok e
 exact ⟨r, h1, h2, rfl⟩
theorem drp_code {n f : Nat} {cf : CFn} (hf : F f = some (.code cf)) {args : List AV} {h : Heap} {rc : Rec} {c : CR} {g : Heap} {rc' : Rec}
 (e : vC F h.length cf.body (args0 args) h [] rc (kFin F cf.res (qDrp n c g rc'))) : Drp F n f args h rc c g rc' := by
 obtain ⟨r, h1, e⟩ := calls_some hf e
 obtain ⟨q, h2, e⟩ := vCR_ok e
 obtain ⟨g', h3, rfl, rfl, rfl⟩ := vDOH_ok _ _ _ _ e
 exact ⟨r, h1, h2, h3, rfl⟩
variable (F)
def kRo (i : Nat) (Q : CRes → Prop) : KK := fun ex fr h ds rc => vq (rndOut i ex ⟨fr, h, ds, rc, 0⟩) Q
def kAsg (n0 : Nat) (body : CC) (i : Nat) (Q : CRes → Prop) : KK := fun ex fr h ds rc => match ex with
 | .nor => vq (rndIn i h) fun h => vC F n0 body fr h ds rc (kRo i Q)
 | _ => False
def vRnd (rf : RFn) (f num i : Nat) (rest : List AV) (h : Heap) (Q : CRes → Prop) : Prop := match h[i]? with
 | some ⟨.mine, _, .lp _ 0 caps⟩ => match Nat.beq f (1048576 + num) && Nat.beq rest.length rf.ps.length && Nat.beq caps.length rf.keep.length with
  | true => vC F h.length rf.assign (look (zipT rf.ps rest (zipT rf.keep caps []))) h [] .rnd (kAsg F h.length rf.body i Q)
  | false => False
 | _ => False
variable {F}
theorem round_some {f : Nat} {rf : RFn} (hf : F f = some (.round rf)) {m : Mode} {num i : Nat} {rest : List AV} {h : Heap} {Q : CRes → Prop} (e : vRnd F rf f num i rest h Q) : ∃ r, CallsTo F f (.yld m num i :: rest) h .no r ∧ Q r := by
 unfold vRnd at e
 split at e
 · rename_i ty num' caps h1
   split at e
   · rename_i h2
     obtain ⟨n, ex, st, h3, e⟩ := vC_ok _ _ _ _ _ _ e
     have hn : st.n0 = h.length := runC_n0 ext_n0 _ _ _ _ h3
     cases ex with
     | nor =>
      simp only [kAsg] at e
      obtain ⟨h', h4, e⟩ := vq_ok e
      obtain ⟨n2, ex2, st2, h5, e⟩ := vC_ok _ _ _ _ _ _ e
      obtain ⟨r, h6, e⟩ := vq_ok e
      refine ⟨r, ⟨max n n2 + 1, ?_⟩, e⟩
      have e1 : ({ st with h := h' } : St) = ⟨st.fr, h', st.ds, st.rc, h.length⟩ := by rw [← hn]
      have h7 : rndOut i ex2 st2 = some r := h6
      simp only [ext, bodyF, hf, bodyR, h1, h2, runC_le (ext_le (Nat.le_max_left n n2)) h3, h4, e1, runC_le (ext_le (Nat.le_max_right n n2)) h5, h7]
     | _ => exact e.elim
   · exact e.elim
 · exact e.elim
theorem calls_round {f : Nat} {rf : RFn} (hf : F f = some (.round rf)) {m : Mode} {num i : Nat} {rest : List AV} {h : Heap} {r : CRes} (e : vRnd F rf f num i rest h (qCall r)) : CallsTo F f (.yld m num i :: rest) h .no r := by
 obtain ⟨q, h1, rfl⟩ := round_some (m := m) hf e
 exact h1
theorem calls_known {f : Nat} {g : List AV → Option AV} (hf : F f = some (.known g)) {args : List AV} {v : AV} (hg : g args = some v) {h : Heap} : CallsTo F f args h .no ⟨.ret v, h, .no⟩ :=
 ⟨1, by simp only [ext, bodyF, hf, hg]⟩
theorem pur_known {f : Nat} {g : List AV → Option AV} (hf : F f = some (.known g)) {args : List AV} {v : DV} (hg : g args = some (.d v)) {h : Heap} : Pur F f args h .no (.ret (.d v)) .no :=
 ⟨_, calls_known hf hg, rfl, rfl⟩
def kRound (keep : List Nat) (n0 : Nat) (Q : Rec → List (Nat × AV) → Heap → List (Mode × Nat × List AV) → Prop) (K : KK) : KK := fun ex fr h ds rc => match ex with
 | .nor => vGc keep n0 fr h ds (Q rc)
 | ex => K ex fr h ds rc
def qRound {σ : Type} (fr : σ → List (Nat × AV)) (h : σ → Heap) (meas : σ → Nat) (ds : List (Mode × Nat × List AV)) (rc : Rec) (s : σ) : Rec → List (Nat × AV) → Heap → List (Mode × Nat × List AV) → Prop :=
 fun rc' vs g ds' => ∃ s', meas s' < meas s ∧ vs = fr s' ∧ g = h s' ∧ ds' = ds ∧ rc' = rc
theorem vloop_by {σ : Type} {keep : List Nat} {c : CC} {K : KK} {n0 : Nat} {ds : List (Mode × Nat × List AV)} {rc : Rec} (fr : σ → List (Nat × AV)) (h : σ → Heap) (meas : σ → Nat)
 (step : ∀ s, vC F n0 c (look (fr s)) (h s) ds rc (kRound keep n0 (qRound fr h meas ds rc s) K)) (s : σ) :
 vloop F keep c ⟨look (fr s), h s, ds, rc, n0⟩ (kLoop K) := by
 have key : ∀ n s, meas s = n → vloop F keep c ⟨look (fr s), h s, ds, rc, n0⟩ (kLoop K) := by
  intro n
  induction n using Nat.strongRecOn with
  | _ n ih =>
   rintro s rfl
   obtain ⟨k, ex, st', h1, e⟩ := vC_ok _ _ _ _ _ _ (step s)
   have hn : st'.n0 = n0 := runC_n0 ext_n0 _ _ _ _ h1
   rw [vloop_eq]
   cases ex with
   | nor =>
    obtain ⟨vs, g, ds', h0, s', hm, rfl, rfl, rfl, hrc⟩ := vGc_ok (rc := st'.rc) e
    have := ih (meas s') hm s' rfl
    rw [vloop_eq] at this
    obtain ⟨ex2, st3, ⟨k2, h2⟩, e2⟩ := this
    refine ⟨ex2, st3, ⟨max k k2 + 1, ?_⟩, e2⟩
    have h0' : gc keep st' = some ⟨look (fr s'), h s', ds', rc, n0⟩ := by
     have e : st' = ⟨st'.fr, st'.h, st'.ds, st'.rc, n0⟩ := by rw [← hn]
     rw [e, h0, hrc]
    simp only [ext, loopF, runC_le (ext_le (Nat.le_max_left k k2)) h1, h0']
    exact (ext_le (Nat.le_max_right k k2)).loop _ _ _ _ h2
   | exit id => exact ⟨_, _, ⟨k + 1, by simp only [ext, loopF, h1]⟩, e⟩
   | ret => exact ⟨_, _, ⟨k + 1, by simp only [ext, loopF, h1]⟩, e⟩
   | pan v => exact ⟨_, _, ⟨k + 1, by simp only [ext, loopF, h1]⟩, e⟩
 exact key _ s rfl
end
end Go.Proofs.YtlhajccbfapieaaGreatDoor.Ab
