/- Some texts as one, one behind the other; what is not leaned on is left out. -/
import Derived.Test.YtapnjabhcdlhbaaGreatDoorAbSome
import Derived.Test.YtapnjabhcdlhbaaGreatDoorAbCfg
import Derived.Lib.Mul64
import Derived.Test.YtapnjabhcdlhbaaGreatDoorC00z
namespace Go.Proofs.YtapnjabhcdlhbaaGreatDoor.Ab
open Go
set_option linter.unusedSimpArgs false
set_option maxRecDepth 100000
set_option linter.unusedVariables false
set_option maxHeartbeats 4000000
theorem pur_closed {F : Nat → Option Fn} {f n : Nat} {args : List AV} {c : CR} {rc' : Rec} (h : ((ext F n).call f args [] .no).map (fun r => (r.r.map (deepOwn 0 r.h), r.rc)) = some (some c, rc')) : Pur F f args [] .no c rc' := by
  cases hr : (ext F n).call f args [] .no with
  | none => rw [hr] at h; cases h
  | some r =>
    rw [hr] at h
    simp only [Option.map_some, Option.some.injEq, Prod.mk.injEq] at h
    exact ⟨r, ⟨n, hr⟩, h.1, h.2⟩
/-- Cells that are data. -/
def Dat (cs : List AV) : Prop := ∃ ds : List DV, cs = ds.map AV.d
theorem refs_dat {cs : List AV} (h : Dat cs) : refs.refsL cs = [] := by
  obtain ⟨ds, rfl⟩ := h
  induction ds with
  | nil => rfl
  | cons d ds ih => simp only [List.map_cons, refs.refsL, refs, ih, List.append_nil]
theorem ren_dat {cs : List AV} (h : Dat cs) (m : Nat → Option Nat) : ren.renL m cs = some cs := by
  obtain ⟨ds, rfl⟩ := h
  induction ds with
  | nil => rfl
  | cons d ds ih => simp only [List.map_cons, ren.renL, ren, ih]
theorem vRens_dat {cs : List AV} (h : Dat cs) {m : Nat → Option Nat} {k : List AV → Prop} (e : k cs) : vRens m cs k := by
  obtain ⟨ds, rfl⟩ := h
  induction ds generalizing k with
  | nil => exact e
  | cons d ds ih => exact ih e
theorem vDOL_dat {cs : List AV} (h : Dat cs) {n : Nat} {hp : Heap} {k : List AV → Prop} (e : k cs) : vDOL n hp cs k := by
  obtain ⟨ds, rfl⟩ := h
  induction ds generalizing k with
  | nil => exact e
  | cons d ds ih => exact ih e
theorem all_dat {cs : List AV} (h : Dat cs) : cs.all celly = true := by
  obtain ⟨ds, rfl⟩ := h
  induction ds with
  | nil => rfl
  | cons d ds ih => simp only [List.map_cons, List.all_cons, ih]; rfl
theorem reach_11 {o : Own} {t : Nat} {cs : List AV} (h : Dat cs) : reach [⟨o, t, .fix cs⟩] 1000 [0, 0] [] = some [0] := by simp [reach, refsO, refs_dat h, memb]
theorem reach_10 {o : Own} {t : Nat} {cs : List AV} (h : Dat cs) : reach [⟨o, t, .fix cs⟩] 1000 [0] [] = some [0] := by simp [reach, refsO, refs_dat h, memb]
theorem reach_00 {o : Own} {t : Nat} {cs : List AV} (h : Dat cs) : reach [⟨o, t, .fix cs⟩] 100 [0] [] = some [0] := by simp [reach, refsO, refs_dat h, memb]
theorem hand_a {t : Nat} {cs : List AV} (h : Dat cs) (v : DV) : handRest id [⟨.mine, t, .fix cs⟩] [.ptr 0 0, .d v] [] = some ⟨[.ptr 0 0, .d v], [⟨.mine, t, .fix cs⟩], [0], []⟩ := by
  have e : refs.refsL [.ptr 0 0, .d v] = [0] := rfl
  simp only [handRest, e, reach_00 h]
  have e2 : renH (place · [0]) id [⟨.mine, t, .fix cs⟩] = some [⟨.mine, t, .fix cs⟩] := by simp [renH, renO, ren_dat h]
  have e3 : gather [⟨.mine, t, .fix cs⟩] [0] = some [⟨.mine, t, .fix cs⟩] := rfl
  have e4 : ren.renL (place · [0]) [.ptr 0 0, .d v] = some [.ptr 0 0, .d v] := rfl
  simp only [e2, e3, e4, disj]
theorem hand_b {t : Nat} {cs : List AV} (h : Dat cs) (v : DV) : handRest id [⟨.mine, t, .fix cs⟩] [.d v, .ptr 0 0] [] = some ⟨[.d v, .ptr 0 0], [⟨.mine, t, .fix cs⟩], [0], []⟩ := by
  have e : refs.refsL [.d v, .ptr 0 0] = [0] := rfl
  simp only [handRest, e, reach_00 h]
  have e2 : renH (place · [0]) id [⟨.mine, t, .fix cs⟩] = some [⟨.mine, t, .fix cs⟩] := by simp [renH, renO, ren_dat h]
  have e3 : gather [⟨.mine, t, .fix cs⟩] [0] = some [⟨.mine, t, .fix cs⟩] := rfl
  have e4 : ren.renL (place · [0]) [.d v, .ptr 0 0] = some [.d v, .ptr 0 0] := rfl
  simp only [e2, e3, e4, disj]
theorem renH_dat {o : Own} {t : Nat} {cs : List AV} (h : Dat cs) (m : Nat → Option Nat) : renH m id [⟨o, t, .fix cs⟩] = some [⟨o, t, .fix cs⟩] := by simp [renH, renO, ren_dat h]
theorem scut_x {l : List UInt8} {a b : Int} (h1 : 0 ≤ a) (h2 : a ≤ b) (h3 : b ≤ l.length) : ∃ r : List UInt8, icut l a b = some r ∧ (r.length : Int) = b - a :=
  ⟨(l.take b.toNat).drop a.toNat, icut_t h1 h2 h3, by simp; omega⟩
theorem vq_i {α : Type} {o : Option α} {x : α} {k : α → Prop} (h : o = some x) (e : k x) : vq o k := by subst h; exact e
theorem and3 {a b c : Bool} (h1 : a = true) (h2 : b = true) (h3 : c = true) : (a && b && c) = true := by rw [h1, h2, h3]; rfl
def mtw (b : Bool) (X : Prop) : Prop := match b with
  | true => X
  | false => False
theorem mt_i {b : Bool} {X : Prop} (h : b = true) (e : X) : mtw b X := by subst h; exact e
theorem k_eq {α : Type} {k : α → Prop} {h h' : α} (e : h = h') (x : k h') : k h := by subst e; exact x
theorem splice_all {L cs : List AV} (h : L.length = cs.length) : splice L 0 cs = cs := by
  unfold splice; rw [List.take_zero, List.nil_append, Nat.zero_add, List.drop_eq_nil_of_le (by omega), List.append_nil]
def isCut (n : Nat) : Bool := Nat.beq n 43 || Nat.beq n 45 || Nat.beq n 46 || Nat.beq n 48
def cutSet : List AV := (List.range 256).map fun n => B (isCut n)
/-- The set of what is trimmed, as a list that is not opened. -/
structure IsSet (cs : List AV) : Prop where
  dat : Dat cs
  get : ∀ n, n < 256 → cs[n]? = some (B (isCut n))
  len : cs.length = 256
theorem isSet : IsSet cutSet := ⟨⟨(List.range 256).map fun n => .bool (isCut n), by unfold cutSet; rw [List.map_map]; rfl⟩, fun n h => by unfold cutSet; rw [List.getElem?_map, List.getElem?_range h]; rfl, by unfold cutSet; simp⟩
theorem makeSet_ok : ∃ cs, IsSet cs ∧ Pur F0 166 [S [43, 45, 46, 48]] [] .no (.ret (.tup [.agg cs, B true])) .no :=
  ⟨cutSet, isSet, pur_closed (n := 10) (by kernel_rfl)⟩
theorem contains_ok (c : UInt8) (t : Nat) {cs : List AV} (hs : IsSet cs) : Drp F0 1 207 [.ptr 0 0, .d (.int .u8 c.toNat)] [⟨.mine, t, .fix cs⟩] .no (.ret (B (isCut c.toNat))) [⟨.mine, t, .fix cs⟩] .no := by
  have h1 := c.toNat_lt
  have hr : (ile 0 (c.toNat : Int) && ilt (c.toNat : Int) (256 : Nat)) = true := by rw [Bool.and_eq_true, ile_t, ilt_t]; omega
  refine drp_code (cf := cfn Tryz.f207) (by kernel_rfl) ?_
  conv => arg 3; reduce
  conv => whnf
  repeat' (first
    | (refine vb_t rfl ?_; conv => whnf)
    | (refine vb_f rfl ?_; conv => whnf)
    | (refine vb_t (by assumption) ?_; conv => whnf)
    | (refine vb_f (by assumption) ?_; conv => whnf)
    | fail)
  have hg : part cs (0 + ((c.toNat : Nat) : Int).toNat * 1) none = some (B (isCut c.toNat)) := by
    show cs[0 + ((c.toNat : Nat) : Int).toNat * 1]? = _
    rw [Nat.zero_add, Nat.mul_one, Int.toNat_natCast]
    exact hs.get _ h1
  rw [hg]
  conv => whnf
  refine vDOL_dat hs.dat ?_
  conv => whnf
  exact ⟨rfl, rfl, rfl⟩
def trimQ (P : List UInt8 → Prop) (t : Nat) (cs : List AV) (c : CR) (g : Heap) (rc : Rec) : Prop := ∃ x, c = .ret (S x) ∧ g = [⟨.mine, t, .fix cs⟩] ∧ rc = .no ∧ P x
/-- What is left, of what is cut off ahead, and behind. -/
def leftCut (s x : List UInt8) : Prop := x.length ≤ s.length ∧ ∃ w, s = w ++ x ∧ (∀ c ∈ w, isCut c.toNat = true) ∧ (∀ c t, x = c :: t → isCut c.toNat = false)
def rightCut (s x : List UInt8) : Prop := x.length ≤ s.length ∧ ∃ w, s = x ++ w ∧ (∀ c ∈ w, isCut c.toNat = true)
theorem scutL {c : UInt8} {t : List UInt8} : icut (c :: t) (Int.ofNat 1) ((c :: t).length : Int) = some t := by
  rw [icut_t (by decide) (by rw [List.length_cons]; show (1 : Int) ≤ _; omega) (Int.le_refl _)]
  congr 1
  show List.drop 1 (List.take (((c :: t).length : Int)).toNat (c :: t)) = t
  rw [Int.toNat_natCast, List.take_length]; rfl
theorem scutR {y : List UInt8} {c : UInt8} {b : Int} (hb : b = y.length) : icut (y ++ [c]) 0 b = some y := by
  subst hb
  rw [icut_t (by omega) (by omega) (by simp; omega)]
  simp
theorem trimLeft_ok (s : List UInt8) (hl : s.length ≤ 100000) (t : Nat) {cs : List AV} (hs : IsSet cs) : ∃ x, Drp F0 1 167 [S s, .ptr 0 0] [⟨.mine, t, .fix cs⟩] .no (.ret (S x)) [⟨.mine, t, .fix cs⟩] .no ∧ leftCut s x := by
  suffices h : ∃ c g rc', Drp F0 1 167 [S s, .ptr 0 0] [⟨.mine, t, .fix cs⟩] .no c g rc' ∧ trimQ (leftCut s) t cs c g rc' by
    obtain ⟨c, g, rc', h1, x, rfl, rfl, rfl, h2⟩ := h
    exact ⟨x, h1, h2⟩
  refine drp_some (cf := cfn Tryz.f167) (by kernel_rfl) ?_
  conv => arg 3; reduce
  conv => whnf
  refine vq_i (x := [0]) (reach_11 hs.dat) ?_
  conv => whnf
  refine vRens_dat hs.dat ?_
  conv => whnf
  refine vloop_by (σ := { x : List UInt8 // x.length ≤ s.length ∧ ∃ w, s = w ++ x ∧ (∀ c ∈ w, isCut c.toNat = true) }) (fun x => [(0, S x.1), (1, .ptr 0 0), (4, S [])]) (fun _ => [⟨.mine, t, .fix cs⟩]) (fun x => x.1.length) ?_ ⟨s, Nat.le_refl _, [], rfl, fun c h => by cases h⟩
  rintro ⟨x, hx, w, hw, hwc⟩
  conv => whnf
  cases x with
  | nil =>
    have q0 : ilt (Int.ofNat 0) (([] : List UInt8).length : Int) = false := by rw [ilt_f]; decide
    repeat' (first
      | (refine vb_t rfl ?_; conv => whnf)
      | (refine vb_f rfl ?_; conv => whnf)
      | (refine vb_t (by assumption) ?_; conv => whnf)
      | (refine vb_f (by assumption) ?_; conv => whnf)
      | (refine vq_i (hand_a hs.dat _) ?_; conv => whnf)
      | (refine vq_i (hand_b hs.dat _) ?_; conv => whnf)
      | (refine vq_i (renH_dat hs.dat _) ?_; conv => whnf)
      | (refine vRens_dat hs.dat ?_; conv => whnf)
      | (refine vDOL_dat hs.dat ?_; conv => whnf)
      | (refine vq_i (x := [0]) (reach_11 hs.dat) ?_; conv => whnf)
      | (refine vq_i (x := [0]) (reach_10 hs.dat) ?_; conv => whnf)
      | (refine vq_i (x := [0]) (reach_00 hs.dat) ?_; conv => whnf)
      | fail)
    exact ⟨[], rfl, rfl, rfl, Nat.zero_le _, w, hw, hwc, fun c t h => by cases h⟩
  | cons c x =>
    have q0 : ilt (Int.ofNat 0) ((c :: x).length : Int) = true := by rw [ilt_t, ofn, List.length_cons]; omega
    have hc : iget (c :: x) (Int.ofNat 0) = some c := iget_t (n := 0) rfl
    repeat' (first
      | (refine vb_t rfl ?_; conv => whnf)
      | (refine vb_f rfl ?_; conv => whnf)
      | (refine vb_t (by assumption) ?_; conv => whnf)
      | (refine vb_f (by assumption) ?_; conv => whnf)
      | (refine vo_i hc ?_; conv => whnf)
      | (refine vdrp_i (contains_ok c t hs) ?_; conv => whnf)
      | (refine vq_i (hand_a hs.dat _) ?_; conv => whnf)
      | (refine vq_i (hand_b hs.dat _) ?_; conv => whnf)
      | (refine vq_i (renH_dat hs.dat _) ?_; conv => whnf)
      | (refine vRens_dat hs.dat ?_; conv => whnf)
      | (refine vDOL_dat hs.dat ?_; conv => whnf)
      | (refine vq_i (x := [0]) (reach_11 hs.dat) ?_; conv => whnf)
      | (refine vq_i (x := [0]) (reach_10 hs.dat) ?_; conv => whnf)
      | (refine vq_i (x := [0]) (reach_00 hs.dat) ?_; conv => whnf)
      | fail)
    cases hcc : isCut c.toNat with
    | true =>
      repeat' (first
        | (refine vb_t rfl ?_; conv => whnf)
        | (refine vb_f rfl ?_; conv => whnf)
        | (refine vb_t (by assumption) ?_; conv => whnf)
        | (refine vb_f (by assumption) ?_; conv => whnf)
        | (refine vo_i scutL ?_; conv => whnf)
        | (refine vq_i (hand_a hs.dat _) ?_; conv => whnf)
        | (refine vq_i (hand_b hs.dat _) ?_; conv => whnf)
        | (refine vq_i (renH_dat hs.dat _) ?_; conv => whnf)
        | (refine vRens_dat hs.dat ?_; conv => whnf)
        | (refine vDOL_dat hs.dat ?_; conv => whnf)
        | (refine vq_i (x := [0]) (reach_11 hs.dat) ?_; conv => whnf)
        | (refine vq_i (x := [0]) (reach_10 hs.dat) ?_; conv => whnf)
        | (refine vq_i (x := [0]) (reach_00 hs.dat) ?_; conv => whnf)
        | fail)
      exact ⟨⟨x, by simp only [List.length_cons] at hx; omega, w ++ [c], by rw [hw]; simp, fun d hd => by
        rcases List.mem_append.1 hd with hd | hd
        · exact hwc d hd
        · rw [List.mem_singleton.1 hd]; exact hcc⟩, by simp only [List.length_cons]; omega, rfl, rfl, rfl, rfl⟩
    | false =>
      repeat' (first
        | (refine vb_t rfl ?_; conv => whnf)
        | (refine vb_f rfl ?_; conv => whnf)
        | (refine vb_t (by assumption) ?_; conv => whnf)
        | (refine vb_f (by assumption) ?_; conv => whnf)
        | (refine vq_i (hand_a hs.dat _) ?_; conv => whnf)
        | (refine vq_i (hand_b hs.dat _) ?_; conv => whnf)
        | (refine vq_i (renH_dat hs.dat _) ?_; conv => whnf)
        | (refine vRens_dat hs.dat ?_; conv => whnf)
        | (refine vDOL_dat hs.dat ?_; conv => whnf)
        | (refine vq_i (x := [0]) (reach_11 hs.dat) ?_; conv => whnf)
        | (refine vq_i (x := [0]) (reach_10 hs.dat) ?_; conv => whnf)
        | (refine vq_i (x := [0]) (reach_00 hs.dat) ?_; conv => whnf)
        | fail)
      exact ⟨c :: x, rfl, rfl, rfl, hx, w, hw, hwc, fun d e h => by cases h; exact hcc⟩
theorem trimRight_ok (s : List UInt8) (hl : s.length ≤ 100000) (t : Nat) {cs : List AV} (hs : IsSet cs) : ∃ x, Drp F0 1 168 [S s, .ptr 0 0] [⟨.mine, t, .fix cs⟩] .no (.ret (S x)) [⟨.mine, t, .fix cs⟩] .no ∧ rightCut s x := by
  suffices h : ∃ c g rc', Drp F0 1 168 [S s, .ptr 0 0] [⟨.mine, t, .fix cs⟩] .no c g rc' ∧ trimQ (rightCut s) t cs c g rc' by
    obtain ⟨c, g, rc', h1, x, rfl, rfl, rfl, h2⟩ := h
    exact ⟨x, h1, h2⟩
  refine drp_some (cf := cfn Tryz.f168) (by kernel_rfl) ?_
  conv => arg 3; reduce
  conv => whnf
  refine vq_i (x := [0]) (reach_11 hs.dat) ?_
  conv => whnf
  refine vRens_dat hs.dat ?_
  conv => whnf
  refine vloop_by (σ := { x : List UInt8 // x.length ≤ s.length ∧ ∃ w, s = x ++ w ∧ (∀ c ∈ w, isCut c.toNat = true) }) (fun x => [(0, S x.1), (1, .ptr 0 0), (4, S [])]) (fun _ => [⟨.mine, t, .fix cs⟩]) (fun x => x.1.length) ?_ ⟨s, Nat.le_refl _, [], (List.append_nil s).symm, fun c h => by cases h⟩
  rintro ⟨x, hx, w, hw, hwc⟩
  conv => whnf
  have hxc : x = [] ∨ ∃ y c, x = y ++ [c] := by
    rcases List.eq_nil_or_concat x with h | ⟨y, c, h⟩
    · exact .inl h
    · exact .inr ⟨y, c, by rw [h, List.concat_eq_append]⟩
  rcases hxc with rfl | ⟨y, c, rfl⟩
  · have q0 : ilt (Int.ofNat 0) (([] : List UInt8).length : Int) = false := by rw [ilt_f]; decide
    repeat' (first
      | (refine vb_t rfl ?_; conv => whnf)
      | (refine vb_f rfl ?_; conv => whnf)
      | (refine vb_t (by assumption) ?_; conv => whnf)
      | (refine vb_f (by assumption) ?_; conv => whnf)
      | (refine vq_i (hand_a hs.dat _) ?_; conv => whnf)
      | (refine vq_i (hand_b hs.dat _) ?_; conv => whnf)
      | (refine vq_i (renH_dat hs.dat _) ?_; conv => whnf)
      | (refine vRens_dat hs.dat ?_; conv => whnf)
      | (refine vDOL_dat hs.dat ?_; conv => whnf)
      | (refine vq_i (x := [0]) (reach_11 hs.dat) ?_; conv => whnf)
      | (refine vq_i (x := [0]) (reach_10 hs.dat) ?_; conv => whnf)
      | (refine vq_i (x := [0]) (reach_00 hs.dat) ?_; conv => whnf)
      | fail)
    exact ⟨[], rfl, rfl, rfl, Nat.zero_le _, w, hw, hwc⟩
  · rw [List.length_append, List.length_singleton] at hx
    have q0 : ilt (Int.ofNat 0) ((y ++ [c]).length : Int) = true := by rw [ilt_t, ofn, List.length_append, List.length_singleton]; omega
    have he : isub .i64 ((y ++ [c]).length : Int) (Int.ofNat 1) = (y.length : Int) := by rw [ofn, List.length_append, List.length_singleton, isub64 (by omega) (by omega)]; omega
    have hc : iget (y ++ [c]) (isub .i64 ((y ++ [c]).length : Int) (Int.ofNat 1)) = some c := by rw [he]; exact iget_t (by simp)
    repeat' (first
      | (refine vb_t rfl ?_; conv => whnf)
      | (refine vb_f rfl ?_; conv => whnf)
      | (refine vb_t (by assumption) ?_; conv => whnf)
      | (refine vb_f (by assumption) ?_; conv => whnf)
      | (refine vo_i hc ?_; conv => whnf)
      | (refine vdrp_i (contains_ok c t hs) ?_; conv => whnf)
      | (refine vq_i (hand_a hs.dat _) ?_; conv => whnf)
      | (refine vq_i (hand_b hs.dat _) ?_; conv => whnf)
      | (refine vq_i (renH_dat hs.dat _) ?_; conv => whnf)
      | (refine vRens_dat hs.dat ?_; conv => whnf)
      | (refine vDOL_dat hs.dat ?_; conv => whnf)
      | (refine vq_i (x := [0]) (reach_11 hs.dat) ?_; conv => whnf)
      | (refine vq_i (x := [0]) (reach_10 hs.dat) ?_; conv => whnf)
      | (refine vq_i (x := [0]) (reach_00 hs.dat) ?_; conv => whnf)
      | fail)
    cases hcc : isCut c.toNat with
    | true =>
      repeat' (first
        | (refine vb_t rfl ?_; conv => whnf)
        | (refine vb_f rfl ?_; conv => whnf)
        | (refine vb_t (by assumption) ?_; conv => whnf)
        | (refine vb_f (by assumption) ?_; conv => whnf)
        | (refine vo_i (scutR he) ?_; conv => whnf)
        | (refine vq_i (hand_a hs.dat _) ?_; conv => whnf)
        | (refine vq_i (hand_b hs.dat _) ?_; conv => whnf)
        | (refine vq_i (renH_dat hs.dat _) ?_; conv => whnf)
        | (refine vRens_dat hs.dat ?_; conv => whnf)
        | (refine vDOL_dat hs.dat ?_; conv => whnf)
        | (refine vq_i (x := [0]) (reach_11 hs.dat) ?_; conv => whnf)
        | (refine vq_i (x := [0]) (reach_10 hs.dat) ?_; conv => whnf)
        | (refine vq_i (x := [0]) (reach_00 hs.dat) ?_; conv => whnf)
        | fail)
      exact ⟨⟨y, by omega, c :: w, by rw [hw]; simp, fun d hd => by
        rcases List.mem_cons.1 hd with hd | hd
        · rw [hd]; exact hcc
        · exact hwc d hd⟩, by simp only [List.length_append, List.length_singleton]; omega, rfl, rfl, rfl, rfl⟩
    | false =>
      repeat' (first
        | (refine vb_t rfl ?_; conv => whnf)
        | (refine vb_f rfl ?_; conv => whnf)
        | (refine vb_t (by assumption) ?_; conv => whnf)
        | (refine vb_f (by assumption) ?_; conv => whnf)
        | (refine vq_i (hand_a hs.dat _) ?_; conv => whnf)
        | (refine vq_i (hand_b hs.dat _) ?_; conv => whnf)
        | (refine vq_i (renH_dat hs.dat _) ?_; conv => whnf)
        | (refine vRens_dat hs.dat ?_; conv => whnf)
        | (refine vDOL_dat hs.dat ?_; conv => whnf)
        | (refine vq_i (x := [0]) (reach_11 hs.dat) ?_; conv => whnf)
        | (refine vq_i (x := [0]) (reach_10 hs.dat) ?_; conv => whnf)
        | (refine vq_i (x := [0]) (reach_00 hs.dat) ?_; conv => whnf)
        | fail)
      exact ⟨y ++ [c], rfl, rfl, rfl, by rw [List.length_append, List.length_singleton]; exact hx, w, hw, hwc⟩
theorem trim_ok (s : List UInt8) (hl : s.length ≤ 100000) : ∃ x, Pur F0 123 [S s, S [43, 45, 46, 48]] [] .no (.ret (S x)) .no ∧ (x = [] ↔ ∀ c ∈ s, isCut c.toNat = true) := by
  refine pur_ret (σ := List UInt8) (g := S) (Q := fun x => x = [] ↔ ∀ c ∈ s, isCut c.toNat = true) (cf := cfn Tryz.f123) (by kernel_rfl) ?_
  conv => arg 3; reduce
  conv => whnf
  by_cases h0 : s = []
  · have q : seq s [] = true := by rw [seq_t]; exact h0
    repeat' (first
      | (refine vb_t rfl ?_; conv => whnf)
      | (refine vb_f rfl ?_; conv => whnf)
      | (refine vb_t (by assumption) ?_; conv => whnf)
      | (refine vb_f (by assumption) ?_; conv => whnf)
      | fail)
    exact ⟨_, rfl, rfl, by rw [h0]; exact ⟨fun _ c hc => (by cases hc), fun _ => rfl⟩⟩
  · have q : seq s [] = false := by rw [seq_f]; exact h0
    obtain ⟨cs, hs, hm⟩ := makeSet_ok
    obtain ⟨x, hx, hxl, w1, e1, c1⟩ := trimRight_ok s hl 186 hs
    obtain ⟨y, hy, _, w2, e2, c2, n2⟩ := trimLeft_ok x (by omega) 186 hs
    repeat' (first
      | (refine vb_t rfl ?_; conv => whnf)
      | (refine vb_f rfl ?_; conv => whnf)
      | (refine vb_t (by assumption) ?_; conv => whnf)
      | (refine vb_f (by assumption) ?_; conv => whnf)
      | (refine vb_f (by rw [ieq_f]; decide) ?_; conv => whnf)
      | (refine vb_f (by rw [seq_f]; decide) ?_; conv => whnf)
      | (refine vpur_i hm ?_; conv => whnf)
      | fail)
    refine mt_i ?_ (k_eq (h' := OR.v (.tup []) [⟨.mine, 186, .fix cs⟩]) ?_ ?_)
    · have e1 : Nat.beq cs.length 256 = true := by rw [hs.len]; rfl
      exact and3 e1 rfl (all_dat hs.dat)
    · refine congrArg (OR.v (.tup [])) (cons_eq (fix_eq ?_) rfl)
      exact splice_all (cs := cs) (by rw [hs.len]; rfl)
    conv => whnf
    repeat' (first
      | (refine vb_t rfl ?_; conv => whnf)
      | (refine vb_f rfl ?_; conv => whnf)
      | (refine vb_t (by assumption) ?_; conv => whnf)
      | (refine vb_f (by assumption) ?_; conv => whnf)
      | (refine vdrp_i hx ?_; conv => whnf)
      | (refine vdrp_i hy ?_; conv => whnf)
      | (refine vq_i (hand_a hs.dat _) ?_; conv => whnf)
      | (refine vq_i (hand_b hs.dat _) ?_; conv => whnf)
      | (refine vq_i (renH_dat hs.dat _) ?_; conv => whnf)
      | (refine vRens_dat hs.dat ?_; conv => whnf)
      | (refine vDOL_dat hs.dat ?_; conv => whnf)
      | (refine vq_i (x := [0]) (reach_11 hs.dat) ?_; conv => whnf)
      | (refine vq_i (x := [0]) (reach_10 hs.dat) ?_; conv => whnf)
      | (refine vq_i (x := [0]) (reach_00 hs.dat) ?_; conv => whnf)
      | fail)
    refine ⟨_, rfl, rfl, fun hy0 c hm => ?_, fun h => ?_⟩
    · rw [e1, e2, hy0, List.append_nil] at hm
      rcases List.mem_append.1 hm with hm | hm
      · exact c2 c hm
      · exact c1 c hm
    · cases y with
      | nil => rfl
      | cons d t =>
        have h1 := h d (by rw [e1, e2]; simp)
        rw [n2 d t rfl] at h1
        cases h1
theorem indexByteString_ok (s : List UInt8) (c : UInt8) (h : Heap) : Pur F0 230 [S s, .d (.int .u8 c.toNat)] h .no (.ret (I (Lib.indexByte s c))) .no := by
  have e : Lib.indexByte s c = Lib.indexByte s (UInt8.ofNat ((c.toNat : Nat) : Int).toNat) := by rw [Int.toNat_natCast, UInt8.ofNat_toNat]
  rw [e]
  exact pur_known (g := kIndexByte) (by kernel_rfl) rfl
theorem indexByte_ok (s : List UInt8) (c : UInt8) : Pur F0 206 [S s, .d (.int .u8 c.toNat)] [] .no (.ret (I (Lib.indexByte s c))) .no := by
  refine pur_code (cf := cfn Tryz.f206) (by kernel_rfl) ?_
  conv => arg 3; reduce
  conv => whnf
  repeat' (first
    | (refine vb_t rfl ?_; conv => whnf)
    | (refine vb_f rfl ?_; conv => whnf)
    | (refine vb_t (by assumption) ?_; conv => whnf)
    | (refine vb_f (by assumption) ?_; conv => whnf)
    | (refine vpur_i (indexByteString_ok s c _) ?_; conv => whnf)
    | fail)
  exact ⟨rfl, rfl⟩
theorem indexByte_lt (s : List UInt8) (c : UInt8) : Lib.indexByte s c < s.length := by
  induction s with
  | nil => show (-1 : Int) < 0; decide
  | cons b l ih =>
    unfold Lib.indexByte
    simp only [List.length_cons]
    split
    · omega
    · split <;> omega
theorem index_ok (s : List UInt8) (c : UInt8) : ∃ i : Int, Pur F0 192 [S s, S [c]] [] .no (.ret (I i)) .no ∧ i = Lib.indexByte s c := by
  refine pur_ret (σ := Int) (g := I) (Q := fun i => i = Lib.indexByte s c) (cf := cfn Tryz.f192) (by kernel_rfl) ?_
  conv => arg 3; reduce
  conv => whnf
  have z0 : ieq (([c] : List UInt8).length : Int) (Int.ofNat 0) = false := by rw [ieq_f]; exact (by decide : (1 : Int) ≠ 0)
  have z1 : ieq (([c] : List UInt8).length : Int) (Int.ofNat 1) = true := by rw [ieq_t]; rfl
  have hc : iget [c] (Int.ofNat 0) = some c := iget_t (n := 0) rfl
  repeat' (first
    | (refine vb_t rfl ?_; conv => whnf)
    | (refine vb_f rfl ?_; conv => whnf)
    | (refine vb_t (by assumption) ?_; conv => whnf)
    | (refine vb_f (by assumption) ?_; conv => whnf)
    | (refine vo_i hc ?_; conv => whnf)
    | (refine vpur_i (indexByte_ok s c) ?_; conv => whnf)
    | fail)
  all_goals first
    | exact ⟨_, rfl, rfl, rfl⟩
    | skip
  refine vb_i (fun h => ?_) (fun h => ?_) <;> conv => whnf
  · rw [seq_t] at h
    repeat' (first
      | (refine vb_t rfl ?_; conv => whnf)
      | (refine vb_f rfl ?_; conv => whnf)
      | (refine vb_t (by assumption) ?_; conv => whnf)
      | (refine vb_f (by assumption) ?_; conv => whnf)
      | fail)
    exact ⟨0, rfl, rfl, by rw [← h]; simp [Lib.indexByte]⟩
  · repeat' (first
      | (refine vb_t rfl ?_; conv => whnf)
      | (refine vb_f rfl ?_; conv => whnf)
      | (refine vb_t (by assumption) ?_; conv => whnf)
      | (refine vb_f (by assumption) ?_; conv => whnf)
      | (refine vo_i hc ?_; conv => whnf)
      | (refine vpur_i (indexByte_ok s c) ?_; conv => whnf)
      | fail)
    exact ⟨_, rfl, rfl, rfl⟩
theorem indexByte_tw : ∀ s : List UInt8, (Lib.indexByte s 101 < 0 → s.takeWhile (· != 101) = s) ∧ (0 ≤ Lib.indexByte s 101 → s.takeWhile (· != 101) = s.take (Lib.indexByte s 101).toNat)
  | [] => ⟨fun _ => rfl, fun _ => rfl⟩
  | b :: l => by
    obtain ⟨h1, h2⟩ := indexByte_tw l
    have h3 := Lib.indexByte_ge l 101
    unfold Lib.indexByte
    by_cases hb : b = 101
    · subst hb
      rw [if_pos (by decide)]
      exact ⟨fun h => by omega, fun _ => rfl⟩
    · have e : (b == (101 : UInt8)) = false := by simpa using hb
      have e2 : (b != (101 : UInt8)) = true := by simpa using hb
      simp only [e, e2, List.takeWhile_cons, Bool.false_eq_true, if_false, if_true, beq_iff_eq]
      split
      · exact ⟨fun _ => by rw [h1 (by omega)], fun h => by omega⟩
      · refine ⟨fun h => by omega, fun _ => ?_⟩
        rw [h2 (by omega)]
        have : (Lib.indexByte l 101 + 1).toNat = (Lib.indexByte l 101).toNat + 1 := by omega
        rw [this, List.take_succ_cons]
theorem cut1_ok (s : List UInt8) (hs : s.length ≤ 100000) : ∃ x : List UInt8 × List UInt8 × Bool, Pur F0 163 [S s, S [101]] [] .no (.ret (.tup [S x.1, S x.2.1, B x.2.2])) .no ∧ x.1 = s.takeWhile (· != 101) := by
  refine pur_ret (σ := List UInt8 × List UInt8 × Bool) (g := fun x => .tup [S x.1, S x.2.1, B x.2.2]) (Q := fun x => x.1 = s.takeWhile (· != 101)) (cf := cfn Tryz.f163) (by kernel_rfl) ?_
  conv => arg 3; reduce
  conv => whnf
  obtain ⟨i, hi, hb⟩ := index_ok s 101
  have h1 := Lib.indexByte_ge s 101
  have h2 := indexByte_lt s 101
  obtain ⟨h3, h4⟩ := indexByte_tw s
  rw [← hb] at h1 h2 h3 h4
  repeat' (first
    | (refine vb_t rfl ?_; conv => whnf)
    | (refine vb_f rfl ?_; conv => whnf)
    | (refine vb_t (by assumption) ?_; conv => whnf)
    | (refine vb_f (by assumption) ?_; conv => whnf)
    | (refine vpur_i hi ?_; conv => whnf)
    | fail)
  refine vb_i (fun h => ?_) (fun h => ?_) <;> conv => whnf
  · have h0 : 0 ≤ i := by simp only [ile_t, ofn] at h; omega
    have he : iadd .i64 i (([101] : List UInt8).length : Int) = i + 1 := by
      show iadd .i64 i 1 = i + 1
      rw [iadd64] <;> omega
    have hr1 : icut s 0 i = some (s.take i.toNat) := by rw [icut_t (by omega) (by omega) (by omega)]; rfl
    obtain ⟨r2, hr2, hl2⟩ := scut_x (l := s) (a := iadd .i64 i (([101] : List UInt8).length : Int)) (b := (s.length : Int)) (by rw [he]; omega) (by rw [he]; omega) (by omega)
    repeat' (first
      | (refine vb_t rfl ?_; conv => whnf)
      | (refine vb_f rfl ?_; conv => whnf)
      | (refine vb_t (by assumption) ?_; conv => whnf)
      | (refine vb_f (by assumption) ?_; conv => whnf)
      | (refine vo_i hr1 ?_; conv => whnf)
      | (refine vo_i hr2 ?_; conv => whnf)
      | fail)
    exact ⟨(s.take i.toNat, r2, true), rfl, rfl, (h4 h0).symm⟩
  · have h0 : i < 0 := by simp only [ile_f, ofn] at h; omega
    repeat' (first
      | (refine vb_t rfl ?_; conv => whnf)
      | (refine vb_f rfl ?_; conv => whnf)
      | (refine vb_t (by assumption) ?_; conv => whnf)
      | (refine vb_f (by assumption) ?_; conv => whnf)
      | fail)
    exact ⟨(s, [], false), rfl, rfl, (h3 h0).symm⟩
theorem cut_ok (s : List UInt8) (hs : s.length ≤ 100000) : ∃ x : List UInt8 × List UInt8 × Bool, Pur F0 122 [S s, S [101]] [] .no (.ret (.tup [S x.1, S x.2.1, B x.2.2])) .no ∧ x.1 = s.takeWhile (· != 101) := by
  refine pur_ret (σ := List UInt8 × List UInt8 × Bool) (g := fun x => .tup [S x.1, S x.2.1, B x.2.2]) (Q := fun x => x.1 = s.takeWhile (· != 101)) (cf := cfn Tryz.f122) (by kernel_rfl) ?_
  conv => arg 3; reduce
  conv => whnf
  obtain ⟨x, hx, hb⟩ := cut1_ok s hs
  repeat' (first
    | (refine vb_t rfl ?_; conv => whnf)
    | (refine vb_f rfl ?_; conv => whnf)
    | (refine vb_t (by assumption) ?_; conv => whnf)
    | (refine vb_f (by assumption) ?_; conv => whnf)
    | (refine vpur_i hx ?_; conv => whnf)
    | fail)
  exact ⟨x, rfl, rfl, hb⟩
end Go.Proofs.YtapnjabhcdlhbaaGreatDoor.Ab
namespace Go.Proofs.YtapnjabhcdlhbaaGreatDoor.Ab
open Go
set_option linter.unusedSimpArgs false
set_option maxRecDepth 100000
set_option linter.unusedVariables false
def low (c : UInt8) : UInt8 := if 65 ≤ c.toNat ∧ c.toNat ≤ 90 then c + 32 else c
def lowTo (s : List UInt8) (i : Nat) : List UInt8 := (s.take i).map low ++ s.drop i
def lower (s : List UInt8) : List UInt8 := s.map low
theorem lowTo_get {s : List UInt8} {i : Nat} {c : UInt8} (h : s[i]? = some c) : (lowTo s i)[i]? = some c := by
  have hl := (List.getElem?_eq_some_iff.1 h).1
  unfold lowTo
  rw [List.getElem?_append_right (by simp; omega)]
  simp [Nat.min_eq_left (Nat.le_of_lt hl), h]
theorem lowTo_succ {s : List UInt8} {i : Nat} {c : UInt8} (h : s[i]? = some c) : (lowTo s i).set i (low c) = lowTo s (i + 1) := by
  have hl := (List.getElem?_eq_some_iff.1 h).1
  have hc := (List.getElem?_eq_some_iff.1 h).2
  unfold lowTo
  rw [List.set_append_right _ _ (by simp; omega), List.take_succ_eq_append_getElem hl, List.drop_eq_getElem_cons hl, hc]
  simp [Nat.min_eq_left (Nat.le_of_lt hl)]
theorem lowTo_id {s : List UInt8} {i : Nat} {c : UInt8} (h : s[i]? = some c) (hc : low c = c) : lowTo s i = lowTo s (i + 1) := by
  rw [← lowTo_succ h, hc]
  obtain ⟨h1, h2⟩ := List.getElem?_eq_some_iff.1 (lowTo_get h)
  rw [← h2, List.set_getElem_self]
theorem iadd_u8 {c : UInt8} (h : c.toNat ≤ 200) : iadd .u8 (c.toNat : Int) (Int.ofNat 32) = ((c + 32).toNat : Int) := by
  have e : (c + 32).toNat = c.toNat + 32 := by rw [UInt8.toNat_add]; simp; omega
  unfold iadd
  rw [e]
  simp only [Int.ofNat_eq_natCast, IntKind.wrap, IntKind.signed, IntKind.bits, Bool.false_and, Bool.false_eq_true, if_false]
  omega
theorem lower_ok (s : List UInt8) (hs : s.length ≤ 140737488355328) : Pur F0 114 [S s] [] .no (.ret (S (lower s))) .no := by
  refine pur_code (cf := cfn Tryz.f114) (by kernel_rfl) ?_
  conv => arg 3; reduce
  conv => whnf
  refine vloop_by (σ := { i : Nat // i ≤ s.length }) (fun i => [(2, S []), (3, .osl 0 0 0 s.length), (8, I (↑s.length - ↑0)), (9, I i.1)]) (fun i => [⟨.mine, _, .arr false 0 1 ((lowTo s i.1).map byteRow)⟩]) (fun i => s.length - i.1) ?_ ⟨0, Nat.zero_le _⟩
  rintro ⟨i, hi⟩
  conv => whnf
  refine vb_i (fun h => ?_) (fun h => ?_)
  · simp only [ilt_t] at h
    have hlt : i < s.length := by omega
    obtain ⟨c, hc⟩ : ∃ c, s[i]? = some c := ⟨s[i], List.getElem?_eq_getElem hlt⟩
    have hr : ((lowTo s i).map byteRow)[i]? = some (byteRow c) := by rw [List.getElem?_map, lowTo_get hc]; rfl
    have hg : iget (((((lowTo s i).map byteRow)).take s.length).drop 0) (i : Int) = some (byteRow c) := iget_sl (by rw [Nat.zero_add]; exact hr) (by omega)
    have hr2 : ((lowTo s i).map byteRow)[0 + (i : Int).toNat]? = some (byteRow c) := by rw [Nat.zero_add, Int.toNat_natCast]; exact hr
    conv => whnf
    repeat' (first
      | (refine vb_t rfl ?_; conv => whnf)
      | (refine vb_f rfl ?_; conv => whnf)
      | (refine vb_t (by assumption) ?_; conv => whnf)
      | (refine vb_f (by assumption) ?_; conv => whnf)
      | (refine vo_i hg ?_; conv => whnf)
      | (refine vo_i hr2 ?_; conv => whnf)
      | (refine vb_i (fun h => ?_) (fun h => ?_) <;> conv => whnf))
    all_goals refine ⟨⟨i + 1, hlt⟩, by simp only; omega, ?_, ?_, rfl, rfl⟩
    all_goals try exact cons_eq rfl (cons_eq rfl (cons_eq rfl (cons_eq (slot_eq (I_eq (iadd_one (i := i) (by omega)))) rfl)))
    all_goals simp only [ile_t, ile_f] at *
    · refine cons_eq (arr_eq ?_) rfl
      rw [Nat.zero_add, Int.toNat_natCast, ← lowTo_succ hc, List.map_set]
      congr 1
      unfold low
      simp only [Int.ofNat_eq_natCast] at *
      rw [if_pos (by omega)]
      show [DV.int IntKind.u8 _] = [DV.int IntKind.u8 _]
      congr 2
      exact iadd_u8 (by omega)
    all_goals refine cons_eq (arr_eq (congrArg (List.map byteRow) (lowTo_id hc ?_))) rfl
    all_goals (unfold low; simp only [Int.ofNat_eq_natCast] at *; rw [if_neg (by omega)])
  · conv => whnf
    repeat' (first
      | (refine vb_t rfl ?_; conv => whnf))
    simp only [ilt_f] at h
    have : i = s.length := by omega
    subst this
    have ht : textOf (List.drop 0 (List.take s.length (List.map byteRow (lowTo s s.length)))) = some (lower s) := by
      rw [List.drop_zero, List.take_of_length_le (by simp [lowTo]), textOf_bytes]
      simp [lowTo, lower]
    refine vo_i ht ?_
    conv => whnf
    exact ⟨rfl, rfl⟩
end Go.Proofs.YtapnjabhcdlhbaaGreatDoor.Ab
namespace Go.Proofs.YtapnjabhcdlhbaaGreatDoor.Ab
open Go
set_option linter.unusedSimpArgs false
set_option maxRecDepth 100000
set_option linter.unusedVariables false
def keyBit (k : Int) : Int := if k = 1 then 4 else if k = 4 then 8 else if k = 5 then 8 else if k = 7 then 32 else 0
theorem keyBit_ok (k : Int) : Pur F0 71 [I k] [] .no (.ret (I (keyBit k))) .no := by
  refine pur_code (cf := cfn Tryz.f71) (by kernel_rfl) ?_
  conv => arg 3; reduce
  conv => whnf
  repeat' (first
    | (refine vb_t rfl ?_; conv => whnf)
    | (refine vb_f rfl ?_; conv => whnf)
    | (refine vb_t (by assumption) ?_; conv => whnf)
    | (refine vb_f (by assumption) ?_; conv => whnf)
    | (refine vb_i (fun h => ?_) (fun h => ?_) <;> conv => whnf)
    | fail)
  all_goals (refine ⟨?_, rfl⟩; simp_all [keyBit, ieq_t, ieq_f])
def keyText (k : Int) : List UInt8 := if k = 1 then [97, 117, 116, 111] else if k = 4 then [109, 105, 110, 45, 99, 111, 110, 116, 101, 110, 116] else if k = 5 then [109, 97, 120, 45, 99, 111, 110, 116, 101, 110, 116] else
  if k = 7 then [110, 111, 110, 101] else []
theorem keyText_ok (k : Int) : Pur F0 69 [I k] [] .no (.ret (S (keyText k))) .no := by
  refine pur_code (cf := cfn Tryz.f69) (by kernel_rfl) ?_
  conv => arg 3; reduce
  conv => whnf
  repeat' (first
    | (refine vb_t rfl ?_; conv => whnf)
    | (refine vb_f rfl ?_; conv => whnf)
    | (refine vb_t (by assumption) ?_; conv => whnf)
    | (refine vb_f (by assumption) ?_; conv => whnf)
    | (refine vb_i (fun h => ?_) (fun h => ?_) <;> conv => whnf)
    | fail)
  all_goals (refine ⟨?_, rfl⟩; simp_all [keyText, ieq_t, ieq_f])
/-- Has allow a bit? -/
def hasBit (a b : Int) : Bool := ilt 0 (iand .i64 a b)
def within (n a most : Int) : Bool := if n < 0 then (if hasBit a 2 = true then ile (isub .i64 0 most) n else false) else ile n most
theorem good1_ok (k n a most : Int) (t u : Nat) : Drp F0 2 70 [I most, .ptr 0 0, .ptr 1 0] [⟨.mine, t, .fix [I k, I n]⟩, ⟨.mine, u, .fix [I a]⟩] .no (.ret (B (within n a most)))
    [⟨.mine, t, .fix [I k, I n]⟩, ⟨.mine, u, .fix [I a]⟩] .no := by
  refine drp_code (cf := cfn Tryz.f70) (by kernel_rfl) ?_
  conv => arg 3; reduce
  conv => whnf
  repeat' (first
    | (refine vb_t rfl ?_; conv => whnf)
    | (refine vb_f rfl ?_; conv => whnf)
    | (refine vb_t (by assumption) ?_; conv => whnf)
    | (refine vb_f (by assumption) ?_; conv => whnf)
    | (refine vb_i (fun h => ?_) (fun h => ?_) <;> conv => whnf)
    | fail)
  all_goals (refine ⟨?_, rfl, rfl⟩; simp_all [within, hasBit, ilt_d, ile_d] <;> omega)
/-- May a size be? -/
def goodL (k n a : Int) : Bool :=
  if k = 2 then within n a 68719476736 else if k = 3 then (hasBit a 1 && within n a 1073741824) else if k = 6 then (hasBit a 16 && decide (0 ≤ n) && decide (n ≤ 1073741824)) else decide (n = 0) && hasBit a (keyBit k)
theorem good_ok (k n a : Int) : Pur F0 21 [.agg [I k, I n], I a] [] .no (.ret (B (goodL k n a))) .no := by
  refine pur_code (cf := cfn Tryz.f21) (by kernel_rfl) ?_
  conv => arg 3; reduce
  conv => whnf
  repeat' (first
    | (refine vb_t rfl ?_; conv => whnf)
    | (refine vb_f rfl ?_; conv => whnf)
    | (refine vb_t (by assumption) ?_; conv => whnf)
    | (refine vb_f (by assumption) ?_; conv => whnf)
    | (refine vdrp_i (good1_ok _ _ _ _ _ _) ?_; conv => whnf)
    | (refine vpur_i (keyBit_ok _) ?_; conv => whnf)
    | (refine vb_i (fun h => ?_) (fun h => ?_) <;> conv => whnf)
    | fail)
  all_goals (refine ⟨?_, rfl⟩; simp_all [goodL, hasBit, ieq_d, ilt_d, ile_d] <;> omega)
end Go.Proofs.YtapnjabhcdlhbaaGreatDoor.Ab
namespace Go.Proofs.YtapnjabhcdlhbaaGreatDoor.Ab
open Go
set_option linter.unusedSimpArgs false
set_option maxRecDepth 100000
set_option linter.unusedVariables false
set_option maxHeartbeats 4000000
theorem isScale_ok (n : Int) : Pur F0 116 [I n] [] .no (.ret (B (decide (n = 1 ∨ n = 64 ∨ n = 1000)))) .no := by
  refine pur_code (cf := cfn Tryz.f116) (by kernel_rfl) ?_
  conv => arg 3; reduce
  conv => whnf
  repeat' (first
    | (refine vb_t rfl ?_; conv => whnf)
    | (refine vb_f rfl ?_; conv => whnf)
    | (refine vb_t (by assumption) ?_; conv => whnf)
    | (refine vb_f (by assumption) ?_; conv => whnf)
    | (refine vb_i (fun h => ?_) (fun h => ?_) <;> conv => whnf)
    | fail)
  all_goals (refine ⟨?_, rfl⟩; simp_all [ieq_d])
def isDig (c : UInt8) : Bool := decide (48 ≤ c.toNat) && decide (c.toNat ≤ 57)
theorem digit_ok (c : UInt8) : Pur F0 213 [.d (.int .u8 c.toNat)] [] .no (.ret (B (isDig c))) .no := by
  refine pur_code (cf := cfn Tryz.f213) (by kernel_rfl) ?_
  conv => arg 3; reduce
  conv => whnf
  repeat' (first
    | (refine vb_t rfl ?_; conv => whnf)
    | (refine vb_f rfl ?_; conv => whnf)
    | (refine vb_t (by assumption) ?_; conv => whnf)
    | (refine vb_f (by assumption) ?_; conv => whnf)
    | (refine vb_i (fun h => ?_) (fun h => ?_) <;> conv => whnf)
    | fail)
  all_goals refine ⟨congrArg CR.ret (congrArg AV.d (congrArg DV.bool ?_)), rfl⟩
  all_goals simp only [ile_d, ofn, decide_eq_true_eq, decide_eq_false_iff_not] at *
  all_goals (unfold isDig; rw [Bool.eq_iff_iff]; simp; omega)
/-- Is a sign at a place? -/
def sgn (s : List UInt8) (i : Nat) : Bool := decide (s[i]? = some 43) || decide (s[i]? = some 45)
def sgnB (s : List UInt8) (i : Nat) : Bool := decide (s[i]? = some 45)
def sgnN (s : List UInt8) (i : Nat) : Nat := if sgn s i = true then i + 1 else i
theorem sign_ok (s : List UInt8) (i : Nat) (a : Int) (ha : a = i) (hs : s.length ≤ 140737488355328) (t u : Nat) : Drp F0 2 211 [.ptr 0 0, .ptr 1 0] [⟨.mine, t, .fix [I a]⟩, ⟨.mine, u, .fix [S s]⟩] .no (.ret (B (sgnB s i)))
    [⟨.mine, t, .fix [I (sgnN s i)]⟩, ⟨.mine, u, .fix [S s]⟩] .no := by
  subst ha
  by_cases hi : i < s.length
  · obtain ⟨c, hc⟩ : ∃ c, s[i]? = some c := ⟨s[i], List.getElem?_eq_getElem hi⟩
    have hg : iget s (i : Int) = some c := iget_t hc
    have hg2 : iget s (isub .i64 (iadd .i64 (i : Int) (Int.ofNat 1)) (Int.ofNat 1)) = some c := by rw [back_one (by omega)]; exact hg
    have hlt : ilt (i : Int) (s.length : Int) = true := by rw [ilt_t]; omega
    have e1 := iadd_one (i := i) (by omega)
    refine drp_code (cf := cfn Tryz.f211) (by kernel_rfl) ?_
    conv => arg 3; reduce
    conv => whnf
    repeat' (first
      | (refine vb_t rfl ?_; conv => whnf)
      | (refine vb_f rfl ?_; conv => whnf)
      | (refine vb_t (by assumption) ?_; conv => whnf)
      | (refine vb_f (by assumption) ?_; conv => whnf)
      | (refine vo_i hg ?_; conv => whnf)
      | (refine vo_i hg2 ?_; conv => whnf)
      | (refine vb_i (fun h => ?_) (fun h => ?_) <;> conv => whnf)
      | fail)
    all_goals refine ⟨congrArg CR.ret (congrArg AV.d (congrArg DV.bool ?_)), cons_eq (fix_eq (cons_eq (I_eq ?_) rfl)) rfl, rfl⟩
    all_goals simp only [ieq_d, ilt_d, ofn, decide_eq_true_eq, decide_eq_false_iff_not] at *
    all_goals simp only [sgnB, sgnN, sgn, hc, u8eq, Option.some.injEq, e1, Bool.or_eq_true, decide_eq_true_eq]
    all_goals simp
    all_goals first
      | omega
      | (rw [if_pos (by omega)]; rfl)
      | (rw [if_neg (by omega)])
  · have hc : s[i]? = none := List.getElem?_eq_none (by omega)
    have hlt : ilt (i : Int) (s.length : Int) = false := by rw [ilt_f]; omega
    refine drp_code (cf := cfn Tryz.f211) (by kernel_rfl) ?_
    conv => arg 3; reduce
    conv => whnf
    repeat' (first
      | (refine vb_t rfl ?_; conv => whnf)
      | (refine vb_f rfl ?_; conv => whnf)
      | (refine vb_t (by assumption) ?_; conv => whnf)
      | (refine vb_f (by assumption) ?_; conv => whnf)
      | (refine vb_i (fun h => ?_) (fun h => ?_) <;> conv => whnf)
      | fail)
    exact ⟨by simp [sgnB, hc], by simp [sgnN, sgn, hc], rfl⟩
/-- How many digits stand from a place on. -/
def digN (s : List UInt8) (i : Nat) : Nat := ((s.drop i).takeWhile isDig).length
def digs (s : List UInt8) (i : Nat) : List UInt8 := (s.drop i).takeWhile isDig
theorem digN_le (s : List UInt8) (i : Nat) (h : i ≤ s.length) : i + digN s i ≤ s.length := by
  have := (List.takeWhile_prefix isDig (l := s.drop i)).length_le
  unfold digN; simp at this; omega
theorem digN_zero {s : List UInt8} {i : Nat} {c : UInt8} (h : s[i]? = some c) (hd : isDig c = false) : digN s i = 0 := by
  have hl := (List.getElem?_eq_some_iff.1 h).1
  have hc := (List.getElem?_eq_some_iff.1 h).2
  unfold digN; rw [List.drop_eq_getElem_cons hl, hc]; simp [hd]
theorem digN_end {s : List UInt8} {i : Nat} (h : s.length ≤ i) : digN s i = 0 := by
  unfold digN; rw [List.drop_eq_nil_of_le h]; rfl
theorem digN_succ {s : List UInt8} {i : Nat} {c : UInt8} (h : s[i]? = some c) (hd : isDig c = true) : digN s i = digN s (i + 1) + 1 := by
  have hl := (List.getElem?_eq_some_iff.1 h).1
  have hc := (List.getElem?_eq_some_iff.1 h).2
  unfold digN; rw [List.drop_eq_getElem_cons hl, hc]; simp [hd]
theorem digs_eq (s : List UInt8) (i : Nat) : digs s i = (s.drop i).take (digN s i) := by
  unfold digs digN
  have := List.takeWhile_prefix isDig (l := s.drop i)
  exact List.prefix_iff_eq_take.1 this
theorem digits_ok (s : List UInt8) (i : Nat) (a : Int) (ha : a = i) (hi : i ≤ s.length) (hs : s.length ≤ 140737488355328) (t u : Nat) : Drp F0 2 212 [.ptr 0 0, .ptr 1 0] [⟨.mine, t, .fix [I a]⟩, ⟨.mine, u, .fix [S s]⟩] .no
    (.ret (S (digs s i))) [⟨.mine, t, .fix [I (i + digN s i : Nat)]⟩, ⟨.mine, u, .fix [S s]⟩] .no := by
  subst ha
  refine drp_code (cf := cfn Tryz.f212) (by kernel_rfl) ?_
  conv => arg 3; reduce
  conv => whnf
  refine vloop_by (σ := { k : Nat // i ≤ k ∧ k ≤ s.length ∧ k + digN s k = i + digN s i }) (fun k => [(0, .ptr 0 0), (1, .ptr 1 0), (2, S []), (3, I i)]) (fun k => [⟨.mine, t, .fix [I k.1]⟩, ⟨.mine, u, .fix [S s]⟩]) (fun k => s.length - k.1) ?_ ⟨i, Nat.le_refl _, hi, rfl⟩
  rintro ⟨k, h1, h2, h3⟩
  by_cases hk : k < s.length
  · obtain ⟨c, hc⟩ : ∃ c, s[k]? = some c := ⟨s[k], List.getElem?_eq_getElem hk⟩
    have hg : iget s (k : Int) = some c := iget_t hc
    have hlt : ilt (k : Int) (s.length : Int) = true := by rw [ilt_t]; omega
    conv => whnf
    repeat' (first
      | (refine vb_t rfl ?_; conv => whnf)
      | (refine vb_f rfl ?_; conv => whnf)
      | (refine vb_t (by assumption) ?_; conv => whnf)
      | (refine vb_f (by assumption) ?_; conv => whnf)
      | (refine vo_i hg ?_; conv => whnf)
      | (refine vpur_i (digit_ok _) ?_; conv => whnf)
      | (refine vb_i (fun h => ?_) (fun h => ?_) <;> conv => whnf)
      | fail)
    · exact ⟨⟨k + 1, by omega, by omega, by rw [digN_succ hc h] at h3; omega⟩, by simp only; omega, rfl, (cons_eq (fix_eq (cons_eq (I_eq (iadd_one (i := k) (by omega))) rfl)) rfl), rfl, rfl⟩
    · rw [digN_zero hc h] at h3
      obtain rfl : k = i + digN s i := by omega
      refine vo_i (icut_t (l := s) (a := (i : Int)) (b := ((i + digN s i : Nat) : Int)) (by omega) (by omega) (by omega)) ?_
      conv => whnf
      exact ⟨congrArg CR.ret (S_eq (by rw [digs_eq, Int.toNat_natCast, Int.toNat_natCast, List.drop_take, Nat.add_sub_cancel_left])), rfl, rfl⟩
  · have hlt : ilt (k : Int) (s.length : Int) = false := by rw [ilt_f]; omega
    conv => whnf
    repeat' (first
      | (refine vb_t rfl ?_; conv => whnf)
      | (refine vb_f rfl ?_; conv => whnf)
      | (refine vb_t (by assumption) ?_; conv => whnf)
      | (refine vb_f (by assumption) ?_; conv => whnf)
      | (refine vb_i (fun h => ?_) (fun h => ?_) <;> conv => whnf)
      | fail)
    rw [digN_end (s := s) (i := k) (by omega)] at h3
    obtain rfl : k = i + digN s i := by omega
    refine vo_i (icut_t (l := s) (a := (i : Int)) (b := ((i + digN s i : Nat) : Int)) (by omega) (by omega) (by omega)) ?_
    conv => whnf
    exact ⟨congrArg CR.ret (S_eq (by rw [digs_eq, Int.toNat_natCast, Int.toNat_natCast, List.drop_take, Nat.add_sub_cancel_left])), rfl, rfl⟩
/-- A number's text in its parts. -/
structure NumP where
  below : Bool
  whole : List UInt8
  part : List UInt8
  exp : List UInt8
  stop : Nat
def numA (p : NumP) : AV := .agg [B p.below, S p.whole, S p.part, S p.exp, I p.stop]
def pA (s : List UInt8) : Nat := sgnN s 0
def pW (s : List UInt8) : Nat := pA s + digN s (pA s)
def pDot (s : List UInt8) : Bool := decide (s[pW s]? = some 46)
def pP (s : List UInt8) : List UInt8 := if pDot s = true then digs s (pW s + 1) else []
def pE (s : List UInt8) : Nat := if pP s = [] then pW s else pW s + 1 + (pP s).length
def pIsE (s : List UInt8) : Bool := decide (s[pE s]? = some 101) || decide (s[pE s]? = some 69)
def pX (s : List UInt8) : Nat := sgnN s (pE s + 1)
def numP (s : List UInt8) : NumP :=
  if digs s (pA s) = [] ∧ pP s = [] then ⟨false, [], [], [], 0⟩
  else if pIsE s = true ∧ digs s (pX s) ≠ [] then ⟨sgnB s 0, digs s (pA s), pP s, (s.take (pX s + digN s (pX s))).drop (pE s + 1), pX s + digN s (pX s)⟩
  else ⟨sgnB s 0, digs s (pA s), pP s, [], pE s⟩
theorem digs_len (s : List UInt8) (i : Nat) : (digs s i).length = digN s i := rfl
theorem numP_e {s : List UInt8} (hb : ¬ (digs s (pA s) = [] ∧ pP s = [])) (h1 : pIsE s = true) (h2 : digs s (pX s) ≠ []) :
    numP s = ⟨sgnB s 0, digs s (pA s), pP s, (s.take (pX s + digN s (pX s))).drop (pE s + 1), pX s + digN s (pX s)⟩ := by unfold numP; rw [if_neg hb, if_pos ⟨h1, h2⟩]
theorem numP_n {s : List UInt8} (hb : ¬ (digs s (pA s) = [] ∧ pP s = [])) (h : pIsE s = false ∨ digs s (pX s) = []) : numP s = ⟨sgnB s 0, digs s (pA s), pP s, [], pE s⟩ := by
  unfold numP; rw [if_neg hb, if_neg]
  rintro ⟨h1, h2⟩
  rcases h with h | h
  · rw [h] at h1; cases h1
  · exact h2 h
theorem num_eq {a b : Bool} {w w' p p' x x' : List UInt8} {e e' : Int} (h1 : a = b) (h2 : w = w') (h3 : p = p') (h4 : x = x') (h5 : e = e') :
    CR.ret (.agg [B a, S w, S p, S x, I e]) = CR.ret (.agg [B b, S w', S p', S x', I e']) := by rw [h1, h2, h3, h4, h5]
theorem parts_ok (s : List UInt8) (hs : s.length ≤ 140737488355328) : Pur F0 171 [S s] [] .no (.ret (numA (numP s))) .no := by
  have a1 : sgnN s 0 ≤ s.length := by
    unfold sgnN sgn
    cases s with
    | nil => simp
    | cons => split <;> simp
  have a2 : pW s ≤ s.length := digN_le s _ a1
  refine pur_code (cf := cfn Tryz.f171) (by kernel_rfl) ?_
  conv => arg 3; reduce
  conv => whnf
  refine vdrp_i (sign_ok s 0 _ rfl hs _ _) ?_
  conv => whnf
  refine vdrp_i (digits_ok s (pA s) _ rfl a1 hs _ _) ?_
  conv => whnf
  by_cases hd : pDot s = true
  · have hc : s[pW s]? = some 46 := by simpa [pDot] using hd
    have hl : pW s < s.length := (List.getElem?_eq_some_iff.1 hc).1
    have hg : iget s ((pA s + digN s (pA s) : Nat) : Int) = some 46 := iget_t hc
    have hlt : ilt ((pA s + digN s (pA s) : Nat) : Int) (s.length : Int) = true := by rw [ilt_t]; unfold pW at hl; omega
    have he : ieq (((46 : UInt8).toNat : Nat) : Int) (Int.ofNat 46) = true := by rw [ieq_t]; rfl
    have hP : pP s = digs s (pW s + 1) := by unfold pP; rw [if_pos hd]
    repeat' (first
      | (refine vb_t rfl ?_; conv => whnf)
      | (refine vb_f rfl ?_; conv => whnf)
      | (refine vb_t (by assumption) ?_; conv => whnf)
      | (refine vb_f (by assumption) ?_; conv => whnf)
      | (refine vo_i hg ?_; conv => whnf)
      | (refine vdrp_i (digits_ok s (pW s + 1) _ (iadd_one (by omega)) hl hs _ _) ?_; conv => whnf)
      | fail)
    by_cases hn : digs s (pW s + 1) = []
    · have hq : seq (digs s (pW s + 1)) [] = true := by rw [seq_t]; exact hn
      have hE : pE s = pW s := by unfold pE; rw [if_pos (hP.trans hn)]
      have hr : isub .i64 ((pW s + 1 + digN s (pW s + 1) : Nat) : Int) (Int.ofNat 1) = ((pE s : Nat) : Int) := by
        have : digN s (pW s + 1) = 0 := by rw [← digs_len, hn]; rfl
        rw [hE, this, isub64] <;> simp <;> omega
      by_cases hw : digs s (pA s) = []
      · have q1 : seq (digs s (pA s)) [] = true := by rw [seq_t]; exact hw
        have hfin : numP s = ⟨false, [], [], [], 0⟩ := by unfold numP; rw [if_pos ⟨hw, hP.trans hn⟩]
        repeat' (first
          | (refine vb_t rfl ?_; conv => whnf)
          | (refine vb_f rfl ?_; conv => whnf)
          | (refine vb_t (by assumption) ?_; conv => whnf)
          | (refine vb_f (by assumption) ?_; conv => whnf)
          | (refine vo_i hg ?_; conv => whnf)
          | fail)
        exact ⟨by rw [hfin]; rfl, rfl⟩
      · have q1 : seq (digs s (pA s)) [] = false := by rw [seq_f]; exact hw
        have hb : ¬ (digs s (pA s) = [] ∧ pP s = []) := fun h => hw h.1
        repeat' (first
          | (refine vb_t rfl ?_; conv => whnf)
          | (refine vb_f rfl ?_; conv => whnf)
          | (refine vb_t (by assumption) ?_; conv => whnf)
          | (refine vb_f (by assumption) ?_; conv => whnf)
          | (refine vo_i hg ?_; conv => whnf)
          | fail)
        have hq0 : seq [] [] = true := by rw [seq_t]
        by_cases hx : pE s < s.length
        · obtain ⟨c, hce⟩ : ∃ c, s[pE s]? = some c := ⟨s[pE s], List.getElem?_eq_getElem hx⟩
          have hlx : ilt (isub .i64 ((pW s + 1 + digN s (pW s + 1) : Nat) : Int) (Int.ofNat 1)) (s.length : Int) = true := ilt_e hr rfl hx
          have hgx : iget s (isub .i64 ((pW s + 1 + digN s (pW s + 1) : Nat) : Int) (Int.ofNat 1)) = some c := iget_e hr hce
          skip
          have a3 : pX s ≤ s.length := by
            unfold pX sgnN sgn
            split
            · rename_i h
              rcases Nat.lt_or_ge (pE s + 1) s.length with h1 | h1
              · omega
              · rw [List.getElem?_eq_none h1] at h; simp at h
            · omega
          by_cases hE1 : c = 101 ∨ c = 69
          · have h1 : pIsE s = true := by unfold pIsE; rw [hce]; rcases hE1 with rfl | rfl <;> rfl
            have hi1 : iadd .i64 (isub .i64 ((pW s + 1 + digN s (pW s + 1) : Nat) : Int) (Int.ofNat 1)) (Int.ofNat 1) = ((pE s + 1 : Nat) : Int) := by rw [hr]; exact iadd_one (by omega)
            have hcut : icut s (iadd .i64 (isub .i64 ((pW s + 1 + digN s (pW s + 1) : Nat) : Int) (Int.ofNat 1)) (Int.ofNat 1)) ((pX s + digN s (pX s) : Nat) : Int) = some ((s.take (pX s + digN s (pX s))).drop (pE s + 1)) :=
              icut_e hi1 rfl (by unfold pX sgnN; split <;> omega) (digN_le s _ a3)
            have t1 : ieq (c.toNat : Int) (Int.ofNat 101) = true ∨ (ieq (c.toNat : Int) (Int.ofNat 101) = false ∧ ieq (c.toNat : Int) (Int.ofNat 69) = true) := by
              rcases hE1 with rfl | rfl
              · exact .inl (ieq_c (c := 101) (k := 101) 101 rfl rfl)
              · exact .inr ⟨ieq_nc (c := 69) (k := 101) 101 rfl (by decide), ieq_c (c := 69) (k := 69) 69 rfl rfl⟩
            by_cases hn : digs s (pX s) = []
            · have hqx : seq (digs s (pX s)) [] = true := by rw [seq_t]; exact hn
              have hqy : (!seq (digs s (pX s)) []) = false := by rw [hqx]; rfl
              have hfin := numP_n hb (.inr hn)
              rcases t1 with t1 | ⟨t1, t2⟩
              all_goals
                repeat' (first
                  | (refine vb_t rfl ?_; conv => whnf)
                  | (refine vb_f rfl ?_; conv => whnf)
                  | (refine vb_t (by assumption) ?_; conv => whnf)
                  | (refine vb_f (by assumption) ?_; conv => whnf)
                  | (refine vo_i hgx ?_; conv => whnf)
                  | (refine vdrp_i (sign_ok s (pE s + 1) _ hi1 hs _ _) ?_; conv => whnf)
                  | (refine vdrp_i (digits_ok s (pX s) _ rfl a3 hs _ _) ?_; conv => whnf)
                  | fail)
                exact ⟨by rw [hfin]; exact num_eq rfl rfl hP.symm rfl hr, rfl⟩
            · have hqx : seq (digs s (pX s)) [] = false := by rw [seq_f]; exact hn
              have hqy : (!seq (digs s (pX s)) []) = true := by rw [hqx]; rfl
              have hfin := numP_e hb h1 hn
              rcases t1 with t1 | ⟨t1, t2⟩
              all_goals
                repeat' (first
                  | (refine vb_t rfl ?_; conv => whnf)
                  | (refine vb_f rfl ?_; conv => whnf)
                  | (refine vb_t (by assumption) ?_; conv => whnf)
                  | (refine vb_f (by assumption) ?_; conv => whnf)
                  | (refine vo_i hgx ?_; conv => whnf)
                  | (refine vdrp_i (sign_ok s (pE s + 1) _ hi1 hs _ _) ?_; conv => whnf)
                  | (refine vdrp_i (digits_ok s (pX s) _ rfl a3 hs _ _) ?_; conv => whnf)
                  | (refine vo_i hcut ?_; conv => whnf)
                  | fail)
                exact ⟨by rw [hfin]; exact num_eq rfl rfl hP.symm rfl rfl, rfl⟩
          · have h1 : pIsE s = false := by
              unfold pIsE; rw [hce]; simp; exact ⟨fun e => hE1 (.inl e), fun e => hE1 (.inr e)⟩
            have t1 : ieq (c.toNat : Int) (Int.ofNat 101) = false := ieq_nc 101 rfl fun e => hE1 (.inl e)
            have t2 : ieq (c.toNat : Int) (Int.ofNat 69) = false := ieq_nc 69 rfl fun e => hE1 (.inr e)
            have hfin := numP_n hb (.inl h1)
            repeat' (first
              | (refine vb_t rfl ?_; conv => whnf)
              | (refine vb_f rfl ?_; conv => whnf)
              | (refine vb_t (by assumption) ?_; conv => whnf)
              | (refine vb_f (by assumption) ?_; conv => whnf)
              | (refine vo_i hgx ?_; conv => whnf)
              | fail)
            exact ⟨by rw [hfin]; exact num_eq rfl rfl hP.symm rfl hr, rfl⟩
        · try (exfalso; omega)
          all_goals
            have hlx : ilt (isub .i64 ((pW s + 1 + digN s (pW s + 1) : Nat) : Int) (Int.ofNat 1)) (s.length : Int) = false := ilt_n hr rfl (by omega)
            have h1 : pIsE s = false := by unfold pIsE; rw [List.getElem?_eq_none (by omega)]; rfl
            have hfin := numP_n hb (.inl h1)
            repeat' (first
              | (refine vb_t rfl ?_; conv => whnf)
              | (refine vb_f rfl ?_; conv => whnf)
              | (refine vb_t (by assumption) ?_; conv => whnf)
              | (refine vb_f (by assumption) ?_; conv => whnf)
              | fail)
            exact ⟨by rw [hfin]; exact num_eq rfl rfl hP.symm rfl hr, rfl⟩
    · have hq : seq (digs s (pW s + 1)) [] = false := by rw [seq_f]; exact hn
      have hE : pE s = pW s + 1 + digN s (pW s + 1) := by unfold pE; rw [if_neg (by rw [hP]; exact hn), hP]; rfl
      have hr : ((pW s + 1 + digN s (pW s + 1) : Nat) : Int) = ((pE s : Nat) : Int) := by rw [hE]
      have hb : ¬ (digs s (pA s) = [] ∧ pP s = []) := fun h => hn (hP.symm.trans h.2)
      by_cases hw : digs s (pA s) = []
      · have q1 : seq (digs s (pA s)) [] = true := by rw [seq_t]; exact hw
        repeat' (first
          | (refine vb_t rfl ?_; conv => whnf)
          | (refine vb_f rfl ?_; conv => whnf)
          | (refine vb_t (by assumption) ?_; conv => whnf)
          | (refine vb_f (by assumption) ?_; conv => whnf)
          | (refine vo_i hg ?_; conv => whnf)
          | fail)
        have hq0 : seq [] [] = true := by rw [seq_t]
        by_cases hx : pE s < s.length
        · obtain ⟨c, hce⟩ : ∃ c, s[pE s]? = some c := ⟨s[pE s], List.getElem?_eq_getElem hx⟩
          have hlx : ilt (((pW s + 1 + digN s (pW s + 1) : Nat) : Int)) (s.length : Int) = true := ilt_e hr rfl hx
          have hgx : iget s (((pW s + 1 + digN s (pW s + 1) : Nat) : Int)) = some c := iget_e hr hce
          skip
          have a3 : pX s ≤ s.length := by
            unfold pX sgnN sgn
            split
            · rename_i h
              rcases Nat.lt_or_ge (pE s + 1) s.length with h1 | h1
              · omega
              · rw [List.getElem?_eq_none h1] at h; simp at h
            · omega
          by_cases hE1 : c = 101 ∨ c = 69
          · have h1 : pIsE s = true := by unfold pIsE; rw [hce]; rcases hE1 with rfl | rfl <;> rfl
            have hi1 : iadd .i64 (((pW s + 1 + digN s (pW s + 1) : Nat) : Int)) (Int.ofNat 1) = ((pE s + 1 : Nat) : Int) := by rw [hr]; exact iadd_one (by omega)
            have hcut : icut s (iadd .i64 (((pW s + 1 + digN s (pW s + 1) : Nat) : Int)) (Int.ofNat 1)) ((pX s + digN s (pX s) : Nat) : Int) = some ((s.take (pX s + digN s (pX s))).drop (pE s + 1)) :=
              icut_e hi1 rfl (by unfold pX sgnN; split <;> omega) (digN_le s _ a3)
            have t1 : ieq (c.toNat : Int) (Int.ofNat 101) = true ∨ (ieq (c.toNat : Int) (Int.ofNat 101) = false ∧ ieq (c.toNat : Int) (Int.ofNat 69) = true) := by
              rcases hE1 with rfl | rfl
              · exact .inl (ieq_c (c := 101) (k := 101) 101 rfl rfl)
              · exact .inr ⟨ieq_nc (c := 69) (k := 101) 101 rfl (by decide), ieq_c (c := 69) (k := 69) 69 rfl rfl⟩
            by_cases hn : digs s (pX s) = []
            · have hqx : seq (digs s (pX s)) [] = true := by rw [seq_t]; exact hn
              have hqy : (!seq (digs s (pX s)) []) = false := by rw [hqx]; rfl
              have hfin := numP_n hb (.inr hn)
              rcases t1 with t1 | ⟨t1, t2⟩
              all_goals
                repeat' (first
                  | (refine vb_t rfl ?_; conv => whnf)
                  | (refine vb_f rfl ?_; conv => whnf)
                  | (refine vb_t (by assumption) ?_; conv => whnf)
                  | (refine vb_f (by assumption) ?_; conv => whnf)
                  | (refine vo_i hgx ?_; conv => whnf)
                  | (refine vdrp_i (sign_ok s (pE s + 1) _ hi1 hs _ _) ?_; conv => whnf)
                  | (refine vdrp_i (digits_ok s (pX s) _ rfl a3 hs _ _) ?_; conv => whnf)
                  | fail)
                exact ⟨by rw [hfin]; exact num_eq rfl rfl hP.symm rfl hr, rfl⟩
            · have hqx : seq (digs s (pX s)) [] = false := by rw [seq_f]; exact hn
              have hqy : (!seq (digs s (pX s)) []) = true := by rw [hqx]; rfl
              have hfin := numP_e hb h1 hn
              rcases t1 with t1 | ⟨t1, t2⟩
              all_goals
                repeat' (first
                  | (refine vb_t rfl ?_; conv => whnf)
                  | (refine vb_f rfl ?_; conv => whnf)
                  | (refine vb_t (by assumption) ?_; conv => whnf)
                  | (refine vb_f (by assumption) ?_; conv => whnf)
                  | (refine vo_i hgx ?_; conv => whnf)
                  | (refine vdrp_i (sign_ok s (pE s + 1) _ hi1 hs _ _) ?_; conv => whnf)
                  | (refine vdrp_i (digits_ok s (pX s) _ rfl a3 hs _ _) ?_; conv => whnf)
                  | (refine vo_i hcut ?_; conv => whnf)
                  | fail)
                exact ⟨by rw [hfin]; exact num_eq rfl rfl hP.symm rfl rfl, rfl⟩
          · have h1 : pIsE s = false := by
              unfold pIsE; rw [hce]; simp; exact ⟨fun e => hE1 (.inl e), fun e => hE1 (.inr e)⟩
            have t1 : ieq (c.toNat : Int) (Int.ofNat 101) = false := ieq_nc 101 rfl fun e => hE1 (.inl e)
            have t2 : ieq (c.toNat : Int) (Int.ofNat 69) = false := ieq_nc 69 rfl fun e => hE1 (.inr e)
            have hfin := numP_n hb (.inl h1)
            repeat' (first
              | (refine vb_t rfl ?_; conv => whnf)
              | (refine vb_f rfl ?_; conv => whnf)
              | (refine vb_t (by assumption) ?_; conv => whnf)
              | (refine vb_f (by assumption) ?_; conv => whnf)
              | (refine vo_i hgx ?_; conv => whnf)
              | fail)
            exact ⟨by rw [hfin]; exact num_eq rfl rfl hP.symm rfl hr, rfl⟩
        · try (exfalso; omega)
          all_goals
            have hlx : ilt (((pW s + 1 + digN s (pW s + 1) : Nat) : Int)) (s.length : Int) = false := ilt_n hr rfl (by omega)
            have h1 : pIsE s = false := by unfold pIsE; rw [List.getElem?_eq_none (by omega)]; rfl
            have hfin := numP_n hb (.inl h1)
            repeat' (first
              | (refine vb_t rfl ?_; conv => whnf)
              | (refine vb_f rfl ?_; conv => whnf)
              | (refine vb_t (by assumption) ?_; conv => whnf)
              | (refine vb_f (by assumption) ?_; conv => whnf)
              | fail)
            exact ⟨by rw [hfin]; exact num_eq rfl rfl hP.symm rfl hr, rfl⟩
      · have q1 : seq (digs s (pA s)) [] = false := by rw [seq_f]; exact hw
        repeat' (first
          | (refine vb_t rfl ?_; conv => whnf)
          | (refine vb_f rfl ?_; conv => whnf)
          | (refine vb_t (by assumption) ?_; conv => whnf)
          | (refine vb_f (by assumption) ?_; conv => whnf)
          | (refine vo_i hg ?_; conv => whnf)
          | fail)
        have hq0 : seq [] [] = true := by rw [seq_t]
        by_cases hx : pE s < s.length
        · obtain ⟨c, hce⟩ : ∃ c, s[pE s]? = some c := ⟨s[pE s], List.getElem?_eq_getElem hx⟩
          have hlx : ilt (((pW s + 1 + digN s (pW s + 1) : Nat) : Int)) (s.length : Int) = true := ilt_e hr rfl hx
          have hgx : iget s (((pW s + 1 + digN s (pW s + 1) : Nat) : Int)) = some c := iget_e hr hce
          skip
          have a3 : pX s ≤ s.length := by
            unfold pX sgnN sgn
            split
            · rename_i h
              rcases Nat.lt_or_ge (pE s + 1) s.length with h1 | h1
              · omega
              · rw [List.getElem?_eq_none h1] at h; simp at h
            · omega
          by_cases hE1 : c = 101 ∨ c = 69
          · have h1 : pIsE s = true := by unfold pIsE; rw [hce]; rcases hE1 with rfl | rfl <;> rfl
            have hi1 : iadd .i64 (((pW s + 1 + digN s (pW s + 1) : Nat) : Int)) (Int.ofNat 1) = ((pE s + 1 : Nat) : Int) := by rw [hr]; exact iadd_one (by omega)
            have hcut : icut s (iadd .i64 (((pW s + 1 + digN s (pW s + 1) : Nat) : Int)) (Int.ofNat 1)) ((pX s + digN s (pX s) : Nat) : Int) = some ((s.take (pX s + digN s (pX s))).drop (pE s + 1)) :=
              icut_e hi1 rfl (by unfold pX sgnN; split <;> omega) (digN_le s _ a3)
            have t1 : ieq (c.toNat : Int) (Int.ofNat 101) = true ∨ (ieq (c.toNat : Int) (Int.ofNat 101) = false ∧ ieq (c.toNat : Int) (Int.ofNat 69) = true) := by
              rcases hE1 with rfl | rfl
              · exact .inl (ieq_c (c := 101) (k := 101) 101 rfl rfl)
              · exact .inr ⟨ieq_nc (c := 69) (k := 101) 101 rfl (by decide), ieq_c (c := 69) (k := 69) 69 rfl rfl⟩
            by_cases hn : digs s (pX s) = []
            · have hqx : seq (digs s (pX s)) [] = true := by rw [seq_t]; exact hn
              have hqy : (!seq (digs s (pX s)) []) = false := by rw [hqx]; rfl
              have hfin := numP_n hb (.inr hn)
              rcases t1 with t1 | ⟨t1, t2⟩
              all_goals
                repeat' (first
                  | (refine vb_t rfl ?_; conv => whnf)
                  | (refine vb_f rfl ?_; conv => whnf)
                  | (refine vb_t (by assumption) ?_; conv => whnf)
                  | (refine vb_f (by assumption) ?_; conv => whnf)
                  | (refine vo_i hgx ?_; conv => whnf)
                  | (refine vdrp_i (sign_ok s (pE s + 1) _ hi1 hs _ _) ?_; conv => whnf)
                  | (refine vdrp_i (digits_ok s (pX s) _ rfl a3 hs _ _) ?_; conv => whnf)
                  | fail)
                exact ⟨by rw [hfin]; exact num_eq rfl rfl hP.symm rfl hr, rfl⟩
            · have hqx : seq (digs s (pX s)) [] = false := by rw [seq_f]; exact hn
              have hqy : (!seq (digs s (pX s)) []) = true := by rw [hqx]; rfl
              have hfin := numP_e hb h1 hn
              rcases t1 with t1 | ⟨t1, t2⟩
              all_goals
                repeat' (first
                  | (refine vb_t rfl ?_; conv => whnf)
                  | (refine vb_f rfl ?_; conv => whnf)
                  | (refine vb_t (by assumption) ?_; conv => whnf)
                  | (refine vb_f (by assumption) ?_; conv => whnf)
                  | (refine vo_i hgx ?_; conv => whnf)
                  | (refine vdrp_i (sign_ok s (pE s + 1) _ hi1 hs _ _) ?_; conv => whnf)
                  | (refine vdrp_i (digits_ok s (pX s) _ rfl a3 hs _ _) ?_; conv => whnf)
                  | (refine vo_i hcut ?_; conv => whnf)
                  | fail)
                exact ⟨by rw [hfin]; exact num_eq rfl rfl hP.symm rfl rfl, rfl⟩
          · have h1 : pIsE s = false := by
              unfold pIsE; rw [hce]; simp; exact ⟨fun e => hE1 (.inl e), fun e => hE1 (.inr e)⟩
            have t1 : ieq (c.toNat : Int) (Int.ofNat 101) = false := ieq_nc 101 rfl fun e => hE1 (.inl e)
            have t2 : ieq (c.toNat : Int) (Int.ofNat 69) = false := ieq_nc 69 rfl fun e => hE1 (.inr e)
            have hfin := numP_n hb (.inl h1)
            repeat' (first
              | (refine vb_t rfl ?_; conv => whnf)
              | (refine vb_f rfl ?_; conv => whnf)
              | (refine vb_t (by assumption) ?_; conv => whnf)
              | (refine vb_f (by assumption) ?_; conv => whnf)
              | (refine vo_i hgx ?_; conv => whnf)
              | fail)
            exact ⟨by rw [hfin]; exact num_eq rfl rfl hP.symm rfl hr, rfl⟩
        · try (exfalso; omega)
          all_goals
            have hlx : ilt (((pW s + 1 + digN s (pW s + 1) : Nat) : Int)) (s.length : Int) = false := ilt_n hr rfl (by omega)
            have h1 : pIsE s = false := by unfold pIsE; rw [List.getElem?_eq_none (by omega)]; rfl
            have hfin := numP_n hb (.inl h1)
            repeat' (first
              | (refine vb_t rfl ?_; conv => whnf)
              | (refine vb_f rfl ?_; conv => whnf)
              | (refine vb_t (by assumption) ?_; conv => whnf)
              | (refine vb_f (by assumption) ?_; conv => whnf)
              | fail)
            exact ⟨by rw [hfin]; exact num_eq rfl rfl hP.symm rfl hr, rfl⟩
  · have hP : pP s = [] := by unfold pP; rw [if_neg hd]
    have hE : pE s = pW s := by unfold pE; rw [if_pos hP]
    have hr : ((pA s + digN s (pA s) : Nat) : Int) = ((pE s : Nat) : Int) := by rw [hE]; rfl
    have hq0 : seq [] [] = true := by rw [seq_t]
    have hdd : s[pW s]? ≠ some 46 := by simpa [pDot] using hd
    by_cases hw : digs s (pA s) = []
    · have q1 : seq (digs s (pA s)) [] = true := by rw [seq_t]; exact hw
      have hfin : numP s = ⟨false, [], [], [], 0⟩ := by unfold numP; rw [if_pos ⟨hw, hP⟩]
      by_cases hl : pW s < s.length
      · obtain ⟨c, hc⟩ : ∃ c, s[pW s]? = some c := ⟨s[pW s], List.getElem?_eq_getElem hl⟩
        have hg : iget s ((pA s + digN s (pA s) : Nat) : Int) = some c := iget_t hc
        have hlt : ilt ((pA s + digN s (pA s) : Nat) : Int) (s.length : Int) = true := ilt_e rfl rfl hl
        have he : ieq (c.toNat : Int) (Int.ofNat 46) = false := ieq_nc 46 rfl fun e => hdd (by rw [hc, e])
        repeat' (first
          | (refine vb_t rfl ?_; conv => whnf)
          | (refine vb_f rfl ?_; conv => whnf)
          | (refine vb_t (by assumption) ?_; conv => whnf)
          | (refine vb_f (by assumption) ?_; conv => whnf)
          | (refine vo_i hg ?_; conv => whnf)
          | fail)
        exact ⟨by rw [hfin]; rfl, rfl⟩
      · have hlt : ilt ((pA s + digN s (pA s) : Nat) : Int) (s.length : Int) = false := ilt_n rfl rfl (by unfold pW at hl; omega)
        repeat' (first
          | (refine vb_t rfl ?_; conv => whnf)
          | (refine vb_f rfl ?_; conv => whnf)
          | (refine vb_t (by assumption) ?_; conv => whnf)
          | (refine vb_f (by assumption) ?_; conv => whnf)
          | fail)
        exact ⟨by rw [hfin]; rfl, rfl⟩
    · have q1 : seq (digs s (pA s)) [] = false := by rw [seq_f]; exact hw
      have hb : ¬ (digs s (pA s) = [] ∧ pP s = []) := fun h => hw h.1
      by_cases hl : pW s < s.length
      · obtain ⟨c, hc⟩ : ∃ c, s[pW s]? = some c := ⟨s[pW s], List.getElem?_eq_getElem hl⟩
        have hg : iget s ((pA s + digN s (pA s) : Nat) : Int) = some c := iget_t hc
        have hlt : ilt ((pA s + digN s (pA s) : Nat) : Int) (s.length : Int) = true := ilt_e rfl rfl hl
        have he : ieq (c.toNat : Int) (Int.ofNat 46) = false := ieq_nc 46 rfl fun e => hdd (by rw [hc, e])
        repeat' (first
          | (refine vb_t rfl ?_; conv => whnf)
          | (refine vb_f rfl ?_; conv => whnf)
          | (refine vb_t (by assumption) ?_; conv => whnf)
          | (refine vb_f (by assumption) ?_; conv => whnf)
          | (refine vo_i hg ?_; conv => whnf)
          | fail)
        have hq0 : seq [] [] = true := by rw [seq_t]
        by_cases hx : pE s < s.length
        · obtain ⟨c, hce⟩ : ∃ c, s[pE s]? = some c := ⟨s[pE s], List.getElem?_eq_getElem hx⟩
          have hlx : ilt (((pA s + digN s (pA s) : Nat) : Int)) (s.length : Int) = true := ilt_e hr rfl hx
          have hgx : iget s (((pA s + digN s (pA s) : Nat) : Int)) = some c := iget_e hr hce
          obtain rfl := Option.some.inj (hgx.symm.trans hg)
          have a3 : pX s ≤ s.length := by
            unfold pX sgnN sgn
            split
            · rename_i h
              rcases Nat.lt_or_ge (pE s + 1) s.length with h1 | h1
              · omega
              · rw [List.getElem?_eq_none h1] at h; simp at h
            · omega
          by_cases hE1 : c = 101 ∨ c = 69
          · have h1 : pIsE s = true := by unfold pIsE; rw [hce]; rcases hE1 with rfl | rfl <;> rfl
            have hi1 : iadd .i64 (((pA s + digN s (pA s) : Nat) : Int)) (Int.ofNat 1) = ((pE s + 1 : Nat) : Int) := by rw [hr]; exact iadd_one (by omega)
            have hcut : icut s (iadd .i64 (((pA s + digN s (pA s) : Nat) : Int)) (Int.ofNat 1)) ((pX s + digN s (pX s) : Nat) : Int) = some ((s.take (pX s + digN s (pX s))).drop (pE s + 1)) :=
              icut_e hi1 rfl (by unfold pX sgnN; split <;> omega) (digN_le s _ a3)
            have t1 : ieq (c.toNat : Int) (Int.ofNat 101) = true ∨ (ieq (c.toNat : Int) (Int.ofNat 101) = false ∧ ieq (c.toNat : Int) (Int.ofNat 69) = true) := by
              rcases hE1 with rfl | rfl
              · exact .inl (ieq_c (c := 101) (k := 101) 101 rfl rfl)
              · exact .inr ⟨ieq_nc (c := 69) (k := 101) 101 rfl (by decide), ieq_c (c := 69) (k := 69) 69 rfl rfl⟩
            by_cases hn : digs s (pX s) = []
            · have hqx : seq (digs s (pX s)) [] = true := by rw [seq_t]; exact hn
              have hqy : (!seq (digs s (pX s)) []) = false := by rw [hqx]; rfl
              have hfin := numP_n hb (.inr hn)
              rcases t1 with t1 | ⟨t1, t2⟩
              all_goals
                repeat' (first
                  | (refine vb_t rfl ?_; conv => whnf)
                  | (refine vb_f rfl ?_; conv => whnf)
                  | (refine vb_t (by assumption) ?_; conv => whnf)
                  | (refine vb_f (by assumption) ?_; conv => whnf)
                  | (refine vo_i hgx ?_; conv => whnf)
                  | (refine vdrp_i (sign_ok s (pE s + 1) _ hi1 hs _ _) ?_; conv => whnf)
                  | (refine vdrp_i (digits_ok s (pX s) _ rfl a3 hs _ _) ?_; conv => whnf)
                  | fail)
                exact ⟨by rw [hfin]; exact num_eq rfl rfl hP.symm rfl hr, rfl⟩
            · have hqx : seq (digs s (pX s)) [] = false := by rw [seq_f]; exact hn
              have hqy : (!seq (digs s (pX s)) []) = true := by rw [hqx]; rfl
              have hfin := numP_e hb h1 hn
              rcases t1 with t1 | ⟨t1, t2⟩
              all_goals
                repeat' (first
                  | (refine vb_t rfl ?_; conv => whnf)
                  | (refine vb_f rfl ?_; conv => whnf)
                  | (refine vb_t (by assumption) ?_; conv => whnf)
                  | (refine vb_f (by assumption) ?_; conv => whnf)
                  | (refine vo_i hgx ?_; conv => whnf)
                  | (refine vdrp_i (sign_ok s (pE s + 1) _ hi1 hs _ _) ?_; conv => whnf)
                  | (refine vdrp_i (digits_ok s (pX s) _ rfl a3 hs _ _) ?_; conv => whnf)
                  | (refine vo_i hcut ?_; conv => whnf)
                  | fail)
                exact ⟨by rw [hfin]; exact num_eq rfl rfl hP.symm rfl rfl, rfl⟩
          · have h1 : pIsE s = false := by
              unfold pIsE; rw [hce]; simp; exact ⟨fun e => hE1 (.inl e), fun e => hE1 (.inr e)⟩
            have t1 : ieq (c.toNat : Int) (Int.ofNat 101) = false := ieq_nc 101 rfl fun e => hE1 (.inl e)
            have t2 : ieq (c.toNat : Int) (Int.ofNat 69) = false := ieq_nc 69 rfl fun e => hE1 (.inr e)
            have hfin := numP_n hb (.inl h1)
            repeat' (first
              | (refine vb_t rfl ?_; conv => whnf)
              | (refine vb_f rfl ?_; conv => whnf)
              | (refine vb_t (by assumption) ?_; conv => whnf)
              | (refine vb_f (by assumption) ?_; conv => whnf)
              | (refine vo_i hgx ?_; conv => whnf)
              | fail)
            exact ⟨by rw [hfin]; exact num_eq rfl rfl hP.symm rfl hr, rfl⟩
        · try (exfalso; omega)
          all_goals
            have hlx : ilt (((pA s + digN s (pA s) : Nat) : Int)) (s.length : Int) = false := ilt_n hr rfl (by omega)
            have h1 : pIsE s = false := by unfold pIsE; rw [List.getElem?_eq_none (by omega)]; rfl
            have hfin := numP_n hb (.inl h1)
            repeat' (first
              | (refine vb_t rfl ?_; conv => whnf)
              | (refine vb_f rfl ?_; conv => whnf)
              | (refine vb_t (by assumption) ?_; conv => whnf)
              | (refine vb_f (by assumption) ?_; conv => whnf)
              | fail)
            exact ⟨by rw [hfin]; exact num_eq rfl rfl hP.symm rfl hr, rfl⟩
      · have hlt : ilt ((pA s + digN s (pA s) : Nat) : Int) (s.length : Int) = false := ilt_n rfl rfl (by unfold pW at hl; omega)
        have hfin := numP_n hb (.inl (show pIsE s = false by unfold pIsE; rw [List.getElem?_eq_none (by omega)]; rfl))
        repeat' (first
          | (refine vb_t rfl ?_; conv => whnf)
          | (refine vb_f rfl ?_; conv => whnf)
          | (refine vb_t (by assumption) ?_; conv => whnf)
          | (refine vb_f (by assumption) ?_; conv => whnf)
          | fail)
        exact ⟨by rw [hfin]; exact num_eq rfl rfl hP.symm rfl hr, rfl⟩
end Go.Proofs.YtapnjabhcdlhbaaGreatDoor.Ab
namespace Go.Proofs.YtapnjabhcdlhbaaGreatDoor.Ab
open Go
set_option linter.unusedSimpArgs false
set_option maxRecDepth 100000
set_option linter.unusedVariables false
abbrev U (n : Int) : AV := .d (.int .u64 n)
theorem u_rem {a b : Nat} : irem (a : Int) (b : Int) = ((a % b : Nat) : Int) := by unfold irem; rfl
theorem iz_u {n : Nat} (h : n ≠ 0) : iz (n : Int) = false := by rw [iz_f]; omega
end Go.Proofs.YtapnjabhcdlhbaaGreatDoor.Ab
namespace Go.Proofs.YtapnjabhcdlhbaaGreatDoor.Ab
open Go
set_option linter.unusedSimpArgs false
set_option maxRecDepth 100000
set_option linter.unusedVariables false
set_option maxHeartbeats 4000000
theorem g_ofn (n : Nat) : Int.ofNat n = ((n : Nat) : Int) := rfl
theorem g_in {x : Int} (h1 : -9223372036854775808 ≤ x) (h2 : x ≤ 9223372036854775807) : IntKind.wrap .i64 x = x := IntWalk.i64_in _ ⟨h1, h2⟩
theorem g_quo {a b : Nat} (ha : a ≤ 4611686018427387904) : iquo .i64 (a : Int) (b : Int) = ((a / b : Nat) : Int) := by
  unfold iquo
  have e : ((a : Int).tdiv (b : Int)) = ((a / b : Nat) : Int) := rfl
  have := Nat.div_le_self a b
  rw [e]
  generalize a / b = q at *
  rw [g_in (by omega) (by omega)]
theorem iandp (a : Int) (b : Nat) (hb : b < 64) : 0 < iand .i64 a b ↔ ((a % 18446744073709551616).toNat &&& b) ≠ 0 := by
  have hA : (BitVec.ofInt 64 a).toNat = (a % 18446744073709551616).toNat := by rw [BitVec.toNat_ofInt]; rfl
  have hB : (BitVec.ofInt 64 (b : Int)).toNat = b := by rw [BitVec.toNat_ofInt]; omega
  have hlt : (a % 18446744073709551616).toNat &&& b ≤ b := Nat.and_le_right
  have hw : iand .i64 a b = (((a % 18446744073709551616).toNat &&& b : Nat) : Int) := by
    unfold iand
    show IntKind.wrap .i64 ((BitVec.ofInt 64 a &&& BitVec.ofInt 64 (b : Int)).toNat : Int) = _
    rw [BitVec.toNat_and, hA, hB]
    generalize (a % 18446744073709551616).toNat &&& b = z at *
    exact IntWalk.i64_in _ ⟨by omega, by omega⟩
  rw [hw]
  omega
theorem and_pow (x k : Nat) : (x &&& 2 ^ k) ≠ 0 ↔ x / 2 ^ k % 2 = 1 := by
  have ht : x.testBit k = decide (x / 2 ^ k % 2 = 1) := Nat.testBit_eq_decide_div_mod_eq
  constructor
  · intro h
    refine Classical.byContradiction fun hn => h ?_
    apply Nat.eq_of_testBit_eq
    intro i
    rw [Nat.testBit_and, Nat.testBit_two_pow, Nat.zero_testBit]
    by_cases hi : k = i
    · subst hi; rw [ht, decide_eq_false hn]; rfl
    · simp [hi]
  · intro h e
    have := congrArg (fun y => Nat.testBit y k) e
    simp only [Nat.testBit_and, Nat.testBit_two_pow, Nat.zero_testBit, ht, h] at this
    simp at this
/-- allow's six bits. -/
def six (a : Int) : Nat := (a % 64).toNat
theorem hasB (a : Int) (k : Nat) (hk : k < 6) : hasBit a ((2 ^ k : Nat) : Int) = decide (six a / 2 ^ k % 2 = 1) := by
  unfold hasBit six
  rw [ilt_d]
  have h2 : 2 ^ k < 64 := Nat.pow_lt_pow_right (by decide) hk
  rw [Bool.eq_iff_iff, decide_eq_true_eq, decide_eq_true_eq, iandp a _ h2, and_pow]
  have e : (a % 64).toNat = (a % 18446744073709551616).toNat % 64 := by omega
  rw [e]
  generalize (a % 18446744073709551616).toNat = x
  have : k = 0 ∨ k = 1 ∨ k = 2 ∨ k = 3 ∨ k = 4 ∨ k = 5 := by omega
  rcases this with rfl | rfl | rfl | rfl | rfl | rfl <;> simp only [Nat.reducePow] <;> omega
theorem lit1 : Int.ofNat 1 = 1 := rfl
theorem lit2 : Int.ofNat 2 = 2 := rfl
theorem lit3 : Int.ofNat 3 = 3 := rfl
theorem lit4 : Int.ofNat 4 = 4 := rfl
theorem lit5 : Int.ofNat 5 = 5 := rfl
theorem lit6 : Int.ofNat 6 = 6 := rfl
theorem lit7 : Int.ofNat 7 = 7 := rfl
theorem lit63 : Int.ofNat 63 = 63 := rfl
theorem lit64 : Int.ofNat 64 = 64 := rfl
theorem litK : Int.ofNat 1000 = 1000 := rfl
theorem has0 (a : Int) : hasBit a 0 = false := by
  unfold hasBit
  rw [ilt_f]
  have : ¬ 0 < iand .i64 a ((0 : Nat) : Int) := by rw [iandp a 0 (by decide)]; simp
  exact Int.not_lt.1 this
end Go.Proofs.YtapnjabhcdlhbaaGreatDoor.Ab
namespace Go.Proofs.YtapnjabhcdlhbaaGreatDoor.Ab
open Go
set_option linter.unusedSimpArgs false
set_option maxRecDepth 100000
set_option linter.unusedVariables false
set_option maxHeartbeats 4000000
def isPx (n : Int) : Bool := decide (-68719476736 ≤ n) && decide (n ≤ 68719476736)
theorem fixedIs_ok (n : Int) : Pur F0 100 [I n] [] .no (.ret (B (isPx n))) .no := by
  refine pur_code (cf := cfn Tryz.f100) (by kernel_rfl) ?_
  conv => arg 3; reduce
  conv => whnf
  repeat' (first
    | (refine vb_t rfl ?_; conv => whnf)
    | (refine vb_f rfl ?_; conv => whnf)
    | (refine vb_t (by assumption) ?_; conv => whnf)
    | (refine vb_f (by assumption) ?_; conv => whnf)
    | (refine vb_i (fun h => ?_) (fun h => ?_) <;> conv => whnf)
    | fail)
  all_goals (refine ⟨?_, rfl⟩)
  all_goals (simp_all [isPx, ile_d] <;> omega)
end Go.Proofs.YtapnjabhcdlhbaaGreatDoor.Ab
namespace Go.Proofs.YtapnjabhcdlhbaaGreatDoor.Ab
open Go
set_option linter.unusedSimpArgs false
set_option maxRecDepth 100000
set_option linter.unusedVariables false
set_option maxHeartbeats 4000000
end Go.Proofs.YtapnjabhcdlhbaaGreatDoor.Ab
namespace Go.Proofs.YtapnjabhcdlhbaaGreatDoor.Ab
open Go
set_option linter.unusedSimpArgs false
set_option maxRecDepth 100000
set_option linter.unusedVariables false
set_option maxHeartbeats 4000000
end Go.Proofs.YtapnjabhcdlhbaaGreatDoor.Ab
namespace Go.Proofs.YtapnjabhcdlhbaaGreatDoor.Ab
open Go
set_option linter.unusedSimpArgs false
set_option maxRecDepth 100000
set_option linter.unusedVariables false
set_option maxHeartbeats 4000000
theorem n_ofn (n : Nat) : Int.ofNat n = ((n : Nat) : Int) := rfl
end Go.Proofs.YtapnjabhcdlhbaaGreatDoor.Ab
namespace Go.Proofs.YtapnjabhcdlhbaaGreatDoor.Ab
open Go
set_option linter.unusedSimpArgs false
set_option maxRecDepth 100000
set_option linter.unusedVariables false
set_option maxHeartbeats 4000000
end Go.Proofs.YtapnjabhcdlhbaaGreatDoor.Ab
namespace Go.Proofs.YtapnjabhcdlhbaaGreatDoor.Ab
open Go
set_option linter.unusedSimpArgs false
set_option maxRecDepth 100000
set_option linter.unusedVariables false
set_option maxHeartbeats 4000000
end Go.Proofs.YtapnjabhcdlhbaaGreatDoor.Ab

