/- What a call comes to, told by a property alone. -/
import Derived.Test.YtlhajccbfapieaaGreatDoorAbCfg
namespace Go.Proofs.YtlhajccbfapieaaGreatDoor.Ab
open Go
set_option linter.unusedVariables false
def qSome2 (Q : CR → Rec → Prop) (rc : Rec) : CR → Prop := fun c => Q c rc
def qSome (Q : CR → Rec → Prop) : CRes → Prop := fun r => vCR 0 r.h r.r (qSome2 Q r.rc)
def qDSome3 (Q : CR → Heap → Rec → Prop) (c : CR) (rc : Rec) : Heap → Prop := fun g => Q c g rc
def qDSome2 (n : Nat) (Q : CR → Heap → Rec → Prop) (h : Heap) (rc : Rec) : CR → Prop := fun c => vDOH n h (h.take n) (qDSome3 Q c rc)
def qDSome (n : Nat) (Q : CR → Heap → Rec → Prop) : CRes → Prop := fun r => vCR n r.h r.r (qDSome2 n Q r.h r.rc)
variable {F : Nat → Option Fn}
theorem pur_some {f : Nat} {cf : CFn} (hf : F f = some (.code cf)) {args : List AV} {h : Heap} {rc : Rec} {Q : CR → Rec → Prop}
 (e : vC F h.length cf.body (args0 args) h [] rc (kFin F cf.res (qSome Q))) : ∃ c rc', Pur F f args h rc c rc' ∧ Q c rc' := by
 obtain ⟨r, h1, e⟩ := calls_some hf e
 obtain ⟨q, h2, e⟩ := vCR_ok e
 exact ⟨q, r.rc, ⟨r, h1, h2, rfl⟩, e⟩
theorem drp_some {n f : Nat} {cf : CFn} (hf : F f = some (.code cf)) {args : List AV} {h : Heap} {rc : Rec} {Q : CR → Heap → Rec → Prop}
 (e : vC F h.length cf.body (args0 args) h [] rc (kFin F cf.res (qDSome n Q))) : ∃ c g rc', Drp F n f args h rc c g rc' ∧ Q c g rc' := by
 obtain ⟨r, h1, e⟩ := calls_some hf e
 obtain ⟨q, h2, e⟩ := vCR_ok e
 obtain ⟨g, h3, e⟩ := vDOH_ok _ _ _ _ e
 exact ⟨q, g, r.rc, ⟨r, h1, h2, h3, rfl⟩, e⟩
theorem pur_ret {f : Nat} {cf : CFn} (hf : F f = some (.code cf)) {args : List AV} {h : Heap} {σ : Type} {g : σ → AV} {Q : σ → Prop}
 (e : vC F h.length cf.body (args0 args) h [] .no (kFin F cf.res (qSome fun c rc => ∃ x, c = .ret (g x) ∧ rc = .no ∧ Q x))) : ∃ x, Pur F f args h .no (.ret (g x)) .no ∧ Q x := by
 obtain ⟨c, rc, h1, x, rfl, rfl, h2⟩ := pur_some hf e
 exact ⟨x, h1, h2⟩
theorem vo_x {α : Type} {o : Option α} {k : α → Prop} (h : ∃ x, o = some x) (h' : ∀ x, o = some x → k x) : vo o k := by
 obtain ⟨x, e⟩ := h
 exact vo_i e (h' x e)
theorem iget_x {α : Type} {l : List α} {n : Int} (h0 : 0 ≤ n) (h : n < l.length) : ∃ x, iget l n = some x := ⟨_, iget_lt h0 h⟩
theorem icut_x {α : Type} {l : List α} {a b : Int} (h1 : 0 ≤ a) (h2 : a ≤ b) (h3 : b ≤ l.length) : ∃ x, icut l a b = some x := ⟨_, icut_t h1 h2 h3⟩
theorem vloop_eq2 {keep : List Nat} {c : CC} {K : KK} {n0 : Nat} {ds : List (Mode × Nat × List AV)} {rc : Rec} {fr fr' : List (Nat × AV)} {h h' : Heap} (e1 : fr = fr') (e2 : h = h')
 (e : vloop F keep c ⟨look fr', h', ds, rc, n0⟩ (kLoop K)) : vloop F keep c ⟨look fr, h, ds, rc, n0⟩ (kLoop K) := by subst e1 e2; exact e
def kOnce (F : Nat → Option Fn) (n0 : Nat) (keep : List Nat) (c : CC) (K : KK) : KK := fun ex fr h ds rc => match ex with
 | .nor => vGc keep n0 fr h ds (kLoopAt F n0 keep c rc K)
 | ex => K ex fr h ds rc
theorem vloop_once {keep : List Nat} {c : CC} {K : KK} {n0 : Nat} {ds : List (Mode × Nat × List AV)} {rc : Rec} {fr : List (Nat × AV)} {h : Heap}
 (e : vC F n0 c (look fr) h ds rc (kOnce F n0 keep c K)) : vloop F keep c ⟨look fr, h, ds, rc, n0⟩ (kLoop K) := by
 obtain ⟨k, ex, st', h1, e⟩ := vC_ok _ _ _ _ _ _ e
 have hn : st'.n0 = n0 := runC_n0 ext_n0 _ _ _ _ h1
 rw [vloop_eq]
 cases ex with
 | nor =>
  obtain ⟨vs, g, ds', h0, e⟩ := vGc_ok (rc := st'.rc) e
  unfold kLoopAt at e
  rw [vloop_eq] at e
  obtain ⟨ex2, st3, ⟨k2, h2⟩, e2⟩ := e
  refine ⟨ex2, st3, ⟨max k k2 + 1, ?_⟩, e2⟩
  have h0' : gc keep st' = some ⟨look vs, g, ds', st'.rc, n0⟩ := by
   have e : st' = ⟨st'.fr, st'.h, st'.ds, st'.rc, n0⟩ := by rw [← hn]
   rw [e, h0]
  simp only [ext, loopF, runC_le (ext_le (Nat.le_max_left k k2)) h1, h0']
  exact (ext_le (Nat.le_max_right k k2)).loop _ _ _ _ h2
 | exit id => exact ⟨_, _, ⟨k + 1, by simp only [ext, loopF, h1]⟩, e⟩
 | ret => exact ⟨_, _, ⟨k + 1, by simp only [ext, loopF, h1]⟩, e⟩
 | pan v => exact ⟨_, _, ⟨k + 1, by simp only [ext, loopF, h1]⟩, e⟩
theorem irow_x {l : List UInt8} {n : Int} (h0 : 0 ≤ n) (h : n < l.length) : ∃ c, iget (l.map byteRow) n = some (byteRow c) := by
 obtain ⟨x, hx⟩ := iget_x (l := l) h0 h
 refine ⟨x, ?_⟩
 unfold iget at hx ⊢
 rw [if_pos h0] at hx ⊢
 rw [List.getElem?_map, hx]; rfl
theorem rcut_x {l : List UInt8} {a b : Int} (h1 : 0 ≤ a) (h2 : a ≤ b) (h3 : b ≤ l.length) : ∃ r : List UInt8, icut (l.map byteRow) a b = some (r.map byteRow) ∧ (r.length : Int) = b - a := by
 refine ⟨(l.take b.toNat).drop a.toNat, ?_, by simp; omega⟩
 rw [icut_t h1 h2 (by simpa using h3), List.map_drop, List.map_take]
theorem imax_d {a b : Int} : imax a b = if b > a then b else a := by unfold imax; rfl
theorem imin_d {a b : Int} : imin a b = if b < a then b else a := by unfold imin; rfl
def restV : Option (Nat × List UInt8) → AV
 | none => .d .nilsl
 | some (g, l) => .osl 0 g 0 l.length
def restH (ty : Nat) : Option (Nat × List UInt8) → Heap
 | none => []
 | some (g, l) => [⟨.mine, ty, .arr true g 1 (l.map byteRow)⟩]
theorem osl_eq {i g g' lo hi hi' : Nat} (h : g = g') (h' : hi = hi') : AV.osl i g lo hi = .osl i g' lo hi' := by rw [h, h']
theorem arr_eq2 {o : Own} {t : Nat} {nl : Bool} {g g' sz : Nat} {r r' : List (List DV)} (hg : g = g') (h : r = r') : (⟨o, t, .arr nl g sz r⟩ : Obj) = ⟨o, t, .arr nl g' sz r'⟩ := by rw [hg, h]
theorem irow_take {l : List UInt8} {n : Int} (h0 : 0 ≤ n) (h : n < l.length) : ∃ c, iget (((l.map byteRow).take l.length).drop 0) n = some (byteRow c) ∧ (l.map byteRow)[0 + n.toNat]? = some (byteRow c) := by
 obtain ⟨c, hc⟩ := irow_x h0 h
 refine ⟨c, by rw [List.take_of_length_le (by simp), List.drop_zero]; exact hc, ?_⟩
 unfold iget at hc
 rw [if_pos h0] at hc
 rw [Nat.zero_add]; exact hc
theorem icast_u8 (z : Int) : icast .u8 z = ((UInt8.ofNat (icast .u8 z).toNat).toNat : Int) := by
 have h : 0 ≤ icast .u8 z ∧ icast .u8 z < 256 := by
  unfold icast
  simp only [IntKind.wrap, IntKind.signed, IntKind.bits, Bool.false_and, Bool.false_eq_true, if_false]
  omega
 rw [UInt8.toNat_ofNat']
 omega
theorem set_u8 {l : List UInt8} {i : Nat} {z : Int} : (l.map byteRow).set i [DV.int .u8 (icast .u8 z)] = (l.set i (UInt8.ofNat (icast .u8 z).toNat)).map byteRow := by
 rw [List.map_set]
 congr 1
 show _ = [DV.int .u8 _]
 rw [← icast_u8]
theorem iz_ten : iz (Int.ofNat 10) = false := by rw [iz_f]; decide
theorem isub_u8 (a b : Int) : isub .u8 a b = ((UInt8.ofNat (isub .u8 a b).toNat).toNat : Int) := by
 have h : 0 ≤ isub .u8 a b ∧ isub .u8 a b < 256 := by
  unfold isub
  simp only [IntKind.wrap, IntKind.signed, IntKind.bits, Bool.false_and, Bool.false_eq_true, if_false]
  omega
 rw [UInt8.toNat_ofNat']
 omega
theorem set_sub8 {l : List UInt8} {i : Nat} {a b : Int} : (l.map byteRow).set i [DV.int .u8 (isub .u8 a b)] = (l.set i (UInt8.ofNat (isub .u8 a b).toNat)).map byteRow := by
 rw [List.map_set]
 congr 1
 show _ = [DV.int .u8 _]
 rw [← isub_u8]
end Go.Proofs.YtlhajccbfapieaaGreatDoor.Ab
