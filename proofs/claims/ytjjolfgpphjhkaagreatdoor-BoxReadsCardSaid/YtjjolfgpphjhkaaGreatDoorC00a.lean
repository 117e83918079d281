/- Go's strings: cut and trimmed. -/
import Derived.Test.YtjjolfgpphjhkaaGreatDoorAbSome
namespace Go.Proofs.YtjjolfgpphjhkaaGreatDoor.Ab
open Go
set_option linter.unusedSimpArgs false
set_option maxRecDepth 100000
set_option linter.unusedVariables false
set_option maxHeartbeats 4000000

theorem pur_closed {F : Nat → Option Fn} {f n : Nat} {args : List AV} {c : CR} {rc' : Rec} (h : ((ext F n).call f args [] .no).map (fun r => (r.r.map (deepOwn 0 r.h), r.rc)) = some (some c, rc')) : Pur F f args [] .no c rc' := by
  cases hr : (ext F n).call f args [] .no with
  | none => rw [hr] at h; cases h
  | some r =>
    rw [hr] at h
    simp only [Option.map_some, Option.some.injEq, Prod.mk.injEq] at h
    exact ⟨r, ⟨n, hr⟩, h.1, h.2⟩
/-- Cells that are data. -/
def Dat (cs : List AV) : Prop := ∃ ds : List DV, cs = ds.map AV.d
theorem refs_dat {cs : List AV} (h : Dat cs) : refs.refsL cs = [] := by
  obtain ⟨ds, rfl⟩ := h
  induction ds with
  | nil => rfl
  | cons d ds ih => simp only [List.map_cons, refs.refsL, refs, ih, List.append_nil]
theorem ren_dat {cs : List AV} (h : Dat cs) (m : Nat → Option Nat) : ren.renL m cs = some cs := by
  obtain ⟨ds, rfl⟩ := h
  induction ds with
  | nil => rfl
  | cons d ds ih => simp only [List.map_cons, ren.renL, ren, ih]
theorem vRens_dat {cs : List AV} (h : Dat cs) {m : Nat → Option Nat} {k : List AV → Prop} (e : k cs) : vRens m cs k := by
  obtain ⟨ds, rfl⟩ := h
  induction ds generalizing k with
  | nil => exact e
  | cons d ds ih => exact ih e
theorem vDOL_dat {cs : List AV} (h : Dat cs) {n : Nat} {hp : Heap} {k : List AV → Prop} (e : k cs) : vDOL n hp cs k := by
  obtain ⟨ds, rfl⟩ := h
  induction ds generalizing k with
  | nil => exact e
  | cons d ds ih => exact ih e
theorem all_dat {cs : List AV} (h : Dat cs) : cs.all celly = true := by
  obtain ⟨ds, rfl⟩ := h
  induction ds with
  | nil => rfl
  | cons d ds ih => simp only [List.map_cons, List.all_cons, ih]; rfl
theorem reach_11 {o : Own} {t : Nat} {cs : List AV} (h : Dat cs) : reach [⟨o, t, .fix cs⟩] 1000 [0, 0] [] = some [0] := by simp [reach, refsO, refs_dat h, memb]
theorem reach_10 {o : Own} {t : Nat} {cs : List AV} (h : Dat cs) : reach [⟨o, t, .fix cs⟩] 1000 [0] [] = some [0] := by simp [reach, refsO, refs_dat h, memb]
theorem reach_00 {o : Own} {t : Nat} {cs : List AV} (h : Dat cs) : reach [⟨o, t, .fix cs⟩] 100 [0] [] = some [0] := by simp [reach, refsO, refs_dat h, memb]
theorem hand_a {t : Nat} {cs : List AV} (h : Dat cs) (v : DV) : handRest id [⟨.mine, t, .fix cs⟩] [.ptr 0 0, .d v] [] = some ⟨[.ptr 0 0, .d v], [⟨.mine, t, .fix cs⟩], [0], []⟩ := by
  have e : refs.refsL [.ptr 0 0, .d v] = [0] := rfl
  simp only [handRest, e, reach_00 h]
  have e2 : renH (place · [0]) id [⟨.mine, t, .fix cs⟩] = some [⟨.mine, t, .fix cs⟩] := by simp [renH, renO, ren_dat h]
  have e3 : gather [⟨.mine, t, .fix cs⟩] [0] = some [⟨.mine, t, .fix cs⟩] := rfl
  have e4 : ren.renL (place · [0]) [.ptr 0 0, .d v] = some [.ptr 0 0, .d v] := rfl
  simp only [e2, e3, e4, disj]
theorem hand_b {t : Nat} {cs : List AV} (h : Dat cs) (v : DV) : handRest id [⟨.mine, t, .fix cs⟩] [.d v, .ptr 0 0] [] = some ⟨[.d v, .ptr 0 0], [⟨.mine, t, .fix cs⟩], [0], []⟩ := by
  have e : refs.refsL [.d v, .ptr 0 0] = [0] := rfl
  simp only [handRest, e, reach_00 h]
  have e2 : renH (place · [0]) id [⟨.mine, t, .fix cs⟩] = some [⟨.mine, t, .fix cs⟩] := by simp [renH, renO, ren_dat h]
  have e3 : gather [⟨.mine, t, .fix cs⟩] [0] = some [⟨.mine, t, .fix cs⟩] := rfl
  have e4 : ren.renL (place · [0]) [.d v, .ptr 0 0] = some [.d v, .ptr 0 0] := rfl
  simp only [e2, e3, e4, disj]
theorem renH_dat {o : Own} {t : Nat} {cs : List AV} (h : Dat cs) (m : Nat → Option Nat) : renH m id [⟨o, t, .fix cs⟩] = some [⟨o, t, .fix cs⟩] := by simp [renH, renO, ren_dat h]
theorem scut_x {l : List UInt8} {a b : Int} (h1 : 0 ≤ a) (h2 : a ≤ b) (h3 : b ≤ l.length) : ∃ r : List UInt8, icut l a b = some r ∧ (r.length : Int) = b - a :=
  ⟨(l.take b.toNat).drop a.toNat, icut_t h1 h2 h3, by simp; omega⟩
theorem vq_i {α : Type} {o : Option α} {x : α} {k : α → Prop} (h : o = some x) (e : k x) : vq o k := by subst h; exact e
theorem and3 {a b c : Bool} (h1 : a = true) (h2 : b = true) (h3 : c = true) : (a && b && c) = true := by rw [h1, h2, h3]; rfl
def mtw (b : Bool) (X : Prop) : Prop := match b with
  | true => X
  | false => False
theorem mt_i {b : Bool} {X : Prop} (h : b = true) (e : X) : mtw b X := by subst h; exact e
theorem k_eq {α : Type} {k : α → Prop} {h h' : α} (e : h = h') (x : k h') : k h := by subst e; exact x
theorem splice_all {L cs : List AV} (h : L.length = cs.length) : splice L 0 cs = cs := by
  unfold splice; rw [List.take_zero, List.nil_append, Nat.zero_add, List.drop_eq_nil_of_le (by omega), List.append_nil]
def isCut (n : Nat) : Bool := Nat.beq n 43 || Nat.beq n 45 || Nat.beq n 46 || Nat.beq n 48
def cutSet : List AV := (List.range 256).map fun n => B (isCut n)
/-- The set of what is trimmed, as a list that is not opened. -/
structure IsSet (cs : List AV) : Prop where
  dat : Dat cs
  get : ∀ n, n < 256 → cs[n]? = some (B (isCut n))
  len : cs.length = 256
theorem isSet : IsSet cutSet := ⟨⟨(List.range 256).map fun n => .bool (isCut n), by unfold cutSet; rw [List.map_map]; rfl⟩, fun n h => by unfold cutSet; rw [List.getElem?_map, List.getElem?_range h]; rfl, by unfold cutSet; simp⟩
theorem makeSet_ok : ∃ cs, IsSet cs ∧ Pur F0 103 [S [43, 45, 46, 48]] [] .no (.ret (.tup [.agg cs, B true])) .no :=
  ⟨cutSet, isSet, pur_closed (n := 10) (by kernel_rfl)⟩
theorem contains_ok (c : UInt8) (t : Nat) {cs : List AV} (hs : IsSet cs) : Drp F0 1 118 [.ptr 0 0, .d (.int .u8 c.toNat)] [⟨.mine, t, .fix cs⟩] .no (.ret (B (isCut c.toNat))) [⟨.mine, t, .fix cs⟩] .no := by
  have h1 := c.toNat_lt
  have hr : (ile 0 (c.toNat : Int) && ilt (c.toNat : Int) (256 : Nat)) = true := by rw [Bool.and_eq_true, ile_t, ilt_t]; omega
  refine drp_code (cf := cfn Tryz.f118) (by kernel_rfl) ?_
  conv => arg 3; reduce
  conv => whnf
  repeat' (first
    | (refine vb_t rfl ?_; conv => whnf)
    | (refine vb_f rfl ?_; conv => whnf)
    | (refine vb_t (by assumption) ?_; conv => whnf)
    | (refine vb_f (by assumption) ?_; conv => whnf)
    | fail)
  have hg : part cs (0 + ((c.toNat : Nat) : Int).toNat * 1) none = some (B (isCut c.toNat)) := by
    show cs[0 + ((c.toNat : Nat) : Int).toNat * 1]? = _
    rw [Nat.zero_add, Nat.mul_one, Int.toNat_natCast]
    exact hs.get _ h1
  rw [hg]
  conv => whnf
  refine vDOL_dat hs.dat ?_
  conv => whnf
  exact ⟨rfl, rfl, rfl⟩
def trimQ (P : List UInt8 → Prop) (t : Nat) (cs : List AV) (c : CR) (g : Heap) (rc : Rec) : Prop := ∃ x, c = .ret (S x) ∧ g = [⟨.mine, t, .fix cs⟩] ∧ rc = .no ∧ P x
/-- What is left, of what is cut off ahead, and behind. -/
def leftCut (s x : List UInt8) : Prop := x.length ≤ s.length ∧ ∃ w, s = w ++ x ∧ (∀ c ∈ w, isCut c.toNat = true) ∧ (∀ c t, x = c :: t → isCut c.toNat = false)
def rightCut (s x : List UInt8) : Prop := x.length ≤ s.length ∧ ∃ w, s = x ++ w ∧ (∀ c ∈ w, isCut c.toNat = true)
theorem scutL {c : UInt8} {t : List UInt8} : icut (c :: t) (Int.ofNat 1) ((c :: t).length : Int) = some t := by
  rw [icut_t (by decide) (by rw [List.length_cons]; show (1 : Int) ≤ _; omega) (Int.le_refl _)]
  congr 1
  show List.drop 1 (List.take (((c :: t).length : Int)).toNat (c :: t)) = t
  rw [Int.toNat_natCast, List.take_length]; rfl
theorem scutR {y : List UInt8} {c : UInt8} {b : Int} (hb : b = y.length) : icut (y ++ [c]) 0 b = some y := by
  subst hb
  rw [icut_t (by omega) (by omega) (by simp; omega)]
  simp
theorem trimLeft_ok (s : List UInt8) (hl : s.length ≤ 100000) (t : Nat) {cs : List AV} (hs : IsSet cs) : ∃ x, Drp F0 1 104 [S s, .ptr 0 0] [⟨.mine, t, .fix cs⟩] .no (.ret (S x)) [⟨.mine, t, .fix cs⟩] .no ∧ leftCut s x := by
  suffices h : ∃ c g rc', Drp F0 1 104 [S s, .ptr 0 0] [⟨.mine, t, .fix cs⟩] .no c g rc' ∧ trimQ (leftCut s) t cs c g rc' by
    obtain ⟨c, g, rc', h1, x, rfl, rfl, rfl, h2⟩ := h
    exact ⟨x, h1, h2⟩
  refine drp_some (cf := cfn Tryz.f104) (by kernel_rfl) ?_
  conv => arg 3; reduce
  conv => whnf
  refine vq_i (x := [0]) (reach_11 hs.dat) ?_
  conv => whnf
  refine vRens_dat hs.dat ?_
  conv => whnf
  refine vloop_by (σ := { x : List UInt8 // x.length ≤ s.length ∧ ∃ w, s = w ++ x ∧ (∀ c ∈ w, isCut c.toNat = true) }) (fun x => [(0, S x.1), (1, .ptr 0 0), (4, S [])]) (fun _ => [⟨.mine, t, .fix cs⟩]) (fun x => x.1.length) ?_ ⟨s, Nat.le_refl _, [], rfl, fun c h => by cases h⟩
  rintro ⟨x, hx, w, hw, hwc⟩
  conv => whnf
  cases x with
  | nil =>
    have q0 : ilt (Int.ofNat 0) (([] : List UInt8).length : Int) = false := by rw [ilt_f]; decide
    repeat' (first
      | (refine vb_t rfl ?_; conv => whnf)
      | (refine vb_f rfl ?_; conv => whnf)
      | (refine vb_t (by assumption) ?_; conv => whnf)
      | (refine vb_f (by assumption) ?_; conv => whnf)
      | (refine vq_i (hand_a hs.dat _) ?_; conv => whnf)
      | (refine vq_i (hand_b hs.dat _) ?_; conv => whnf)
      | (refine vq_i (renH_dat hs.dat _) ?_; conv => whnf)
      | (refine vRens_dat hs.dat ?_; conv => whnf)
      | (refine vDOL_dat hs.dat ?_; conv => whnf)
      | (refine vq_i (x := [0]) (reach_11 hs.dat) ?_; conv => whnf)
      | (refine vq_i (x := [0]) (reach_10 hs.dat) ?_; conv => whnf)
      | (refine vq_i (x := [0]) (reach_00 hs.dat) ?_; conv => whnf)
      | fail)
    exact ⟨[], rfl, rfl, rfl, Nat.zero_le _, w, hw, hwc, fun c t h => by cases h⟩
  | cons c x =>
    have q0 : ilt (Int.ofNat 0) ((c :: x).length : Int) = true := by rw [ilt_t, ofn, List.length_cons]; omega
    have hc : iget (c :: x) (Int.ofNat 0) = some c := iget_t (n := 0) rfl
    repeat' (first
      | (refine vb_t rfl ?_; conv => whnf)
      | (refine vb_f rfl ?_; conv => whnf)
      | (refine vb_t (by assumption) ?_; conv => whnf)
      | (refine vb_f (by assumption) ?_; conv => whnf)
      | (refine vo_i hc ?_; conv => whnf)
      | (refine vdrp_i (contains_ok c t hs) ?_; conv => whnf)
      | (refine vq_i (hand_a hs.dat _) ?_; conv => whnf)
      | (refine vq_i (hand_b hs.dat _) ?_; conv => whnf)
      | (refine vq_i (renH_dat hs.dat _) ?_; conv => whnf)
      | (refine vRens_dat hs.dat ?_; conv => whnf)
      | (refine vDOL_dat hs.dat ?_; conv => whnf)
      | (refine vq_i (x := [0]) (reach_11 hs.dat) ?_; conv => whnf)
      | (refine vq_i (x := [0]) (reach_10 hs.dat) ?_; conv => whnf)
      | (refine vq_i (x := [0]) (reach_00 hs.dat) ?_; conv => whnf)
      | fail)
    cases hcc : isCut c.toNat with
    | true =>
      repeat' (first
        | (refine vb_t rfl ?_; conv => whnf)
        | (refine vb_f rfl ?_; conv => whnf)
        | (refine vb_t (by assumption) ?_; conv => whnf)
        | (refine vb_f (by assumption) ?_; conv => whnf)
        | (refine vo_i scutL ?_; conv => whnf)
        | (refine vq_i (hand_a hs.dat _) ?_; conv => whnf)
        | (refine vq_i (hand_b hs.dat _) ?_; conv => whnf)
        | (refine vq_i (renH_dat hs.dat _) ?_; conv => whnf)
        | (refine vRens_dat hs.dat ?_; conv => whnf)
        | (refine vDOL_dat hs.dat ?_; conv => whnf)
        | (refine vq_i (x := [0]) (reach_11 hs.dat) ?_; conv => whnf)
        | (refine vq_i (x := [0]) (reach_10 hs.dat) ?_; conv => whnf)
        | (refine vq_i (x := [0]) (reach_00 hs.dat) ?_; conv => whnf)
        | fail)
      exact ⟨⟨x, by simp only [List.length_cons] at hx; omega, w ++ [c], by rw [hw]; simp, fun d hd => by
        rcases List.mem_append.1 hd with hd | hd
        · exact hwc d hd
        · rw [List.mem_singleton.1 hd]; exact hcc⟩, by simp only [List.length_cons]; omega, rfl, rfl, rfl, rfl⟩
    | false =>
      repeat' (first
        | (refine vb_t rfl ?_; conv => whnf)
        | (refine vb_f rfl ?_; conv => whnf)
        | (refine vb_t (by assumption) ?_; conv => whnf)
        | (refine vb_f (by assumption) ?_; conv => whnf)
        | (refine vq_i (hand_a hs.dat _) ?_; conv => whnf)
        | (refine vq_i (hand_b hs.dat _) ?_; conv => whnf)
        | (refine vq_i (renH_dat hs.dat _) ?_; conv => whnf)
        | (refine vRens_dat hs.dat ?_; conv => whnf)
        | (refine vDOL_dat hs.dat ?_; conv => whnf)
        | (refine vq_i (x := [0]) (reach_11 hs.dat) ?_; conv => whnf)
        | (refine vq_i (x := [0]) (reach_10 hs.dat) ?_; conv => whnf)
        | (refine vq_i (x := [0]) (reach_00 hs.dat) ?_; conv => whnf)
        | fail)
      exact ⟨c :: x, rfl, rfl, rfl, hx, w, hw, hwc, fun d e h => by cases h; exact hcc⟩
theorem trimRight_ok (s : List UInt8) (hl : s.length ≤ 100000) (t : Nat) {cs : List AV} (hs : IsSet cs) : ∃ x, Drp F0 1 105 [S s, .ptr 0 0] [⟨.mine, t, .fix cs⟩] .no (.ret (S x)) [⟨.mine, t, .fix cs⟩] .no ∧ rightCut s x := by
  suffices h : ∃ c g rc', Drp F0 1 105 [S s, .ptr 0 0] [⟨.mine, t, .fix cs⟩] .no c g rc' ∧ trimQ (rightCut s) t cs c g rc' by
    obtain ⟨c, g, rc', h1, x, rfl, rfl, rfl, h2⟩ := h
    exact ⟨x, h1, h2⟩
  refine drp_some (cf := cfn Tryz.f105) (by kernel_rfl) ?_
  conv => arg 3; reduce
  conv => whnf
  refine vq_i (x := [0]) (reach_11 hs.dat) ?_
  conv => whnf
  refine vRens_dat hs.dat ?_
  conv => whnf
  refine vloop_by (σ := { x : List UInt8 // x.length ≤ s.length ∧ ∃ w, s = x ++ w ∧ (∀ c ∈ w, isCut c.toNat = true) }) (fun x => [(0, S x.1), (1, .ptr 0 0), (4, S [])]) (fun _ => [⟨.mine, t, .fix cs⟩]) (fun x => x.1.length) ?_ ⟨s, Nat.le_refl _, [], (List.append_nil s).symm, fun c h => by cases h⟩
  rintro ⟨x, hx, w, hw, hwc⟩
  conv => whnf
  have hxc : x = [] ∨ ∃ y c, x = y ++ [c] := by
    rcases List.eq_nil_or_concat x with h | ⟨y, c, h⟩
    · exact .inl h
    · exact .inr ⟨y, c, by rw [h, List.concat_eq_append]⟩
  rcases hxc with rfl | ⟨y, c, rfl⟩
  · have q0 : ilt (Int.ofNat 0) (([] : List UInt8).length : Int) = false := by rw [ilt_f]; decide
    repeat' (first
      | (refine vb_t rfl ?_; conv => whnf)
      | (refine vb_f rfl ?_; conv => whnf)
      | (refine vb_t (by assumption) ?_; conv => whnf)
      | (refine vb_f (by assumption) ?_; conv => whnf)
      | (refine vq_i (hand_a hs.dat _) ?_; conv => whnf)
      | (refine vq_i (hand_b hs.dat _) ?_; conv => whnf)
      | (refine vq_i (renH_dat hs.dat _) ?_; conv => whnf)
      | (refine vRens_dat hs.dat ?_; conv => whnf)
      | (refine vDOL_dat hs.dat ?_; conv => whnf)
      | (refine vq_i (x := [0]) (reach_11 hs.dat) ?_; conv => whnf)
      | (refine vq_i (x := [0]) (reach_10 hs.dat) ?_; conv => whnf)
      | (refine vq_i (x := [0]) (reach_00 hs.dat) ?_; conv => whnf)
      | fail)
    exact ⟨[], rfl, rfl, rfl, Nat.zero_le _, w, hw, hwc⟩
  · rw [List.length_append, List.length_singleton] at hx
    have q0 : ilt (Int.ofNat 0) ((y ++ [c]).length : Int) = true := by rw [ilt_t, ofn, List.length_append, List.length_singleton]; omega
    have he : isub .i64 ((y ++ [c]).length : Int) (Int.ofNat 1) = (y.length : Int) := by rw [ofn, List.length_append, List.length_singleton, isub64 (by omega) (by omega)]; omega
    have hc : iget (y ++ [c]) (isub .i64 ((y ++ [c]).length : Int) (Int.ofNat 1)) = some c := by rw [he]; exact iget_t (by simp)
    repeat' (first
      | (refine vb_t rfl ?_; conv => whnf)
      | (refine vb_f rfl ?_; conv => whnf)
      | (refine vb_t (by assumption) ?_; conv => whnf)
      | (refine vb_f (by assumption) ?_; conv => whnf)
      | (refine vo_i hc ?_; conv => whnf)
      | (refine vdrp_i (contains_ok c t hs) ?_; conv => whnf)
      | (refine vq_i (hand_a hs.dat _) ?_; conv => whnf)
      | (refine vq_i (hand_b hs.dat _) ?_; conv => whnf)
      | (refine vq_i (renH_dat hs.dat _) ?_; conv => whnf)
      | (refine vRens_dat hs.dat ?_; conv => whnf)
      | (refine vDOL_dat hs.dat ?_; conv => whnf)
      | (refine vq_i (x := [0]) (reach_11 hs.dat) ?_; conv => whnf)
      | (refine vq_i (x := [0]) (reach_10 hs.dat) ?_; conv => whnf)
      | (refine vq_i (x := [0]) (reach_00 hs.dat) ?_; conv => whnf)
      | fail)
    cases hcc : isCut c.toNat with
    | true =>
      repeat' (first
        | (refine vb_t rfl ?_; conv => whnf)
        | (refine vb_f rfl ?_; conv => whnf)
        | (refine vb_t (by assumption) ?_; conv => whnf)
        | (refine vb_f (by assumption) ?_; conv => whnf)
        | (refine vo_i (scutR he) ?_; conv => whnf)
        | (refine vq_i (hand_a hs.dat _) ?_; conv => whnf)
        | (refine vq_i (hand_b hs.dat _) ?_; conv => whnf)
        | (refine vq_i (renH_dat hs.dat _) ?_; conv => whnf)
        | (refine vRens_dat hs.dat ?_; conv => whnf)
        | (refine vDOL_dat hs.dat ?_; conv => whnf)
        | (refine vq_i (x := [0]) (reach_11 hs.dat) ?_; conv => whnf)
        | (refine vq_i (x := [0]) (reach_10 hs.dat) ?_; conv => whnf)
        | (refine vq_i (x := [0]) (reach_00 hs.dat) ?_; conv => whnf)
        | fail)
      exact ⟨⟨y, by omega, c :: w, by rw [hw]; simp, fun d hd => by
        rcases List.mem_cons.1 hd with hd | hd
        · rw [hd]; exact hcc
        · exact hwc d hd⟩, by simp only [List.length_append, List.length_singleton]; omega, rfl, rfl, rfl, rfl⟩
    | false =>
      repeat' (first
        | (refine vb_t rfl ?_; conv => whnf)
        | (refine vb_f rfl ?_; conv => whnf)
        | (refine vb_t (by assumption) ?_; conv => whnf)
        | (refine vb_f (by assumption) ?_; conv => whnf)
        | (refine vq_i (hand_a hs.dat _) ?_; conv => whnf)
        | (refine vq_i (hand_b hs.dat _) ?_; conv => whnf)
        | (refine vq_i (renH_dat hs.dat _) ?_; conv => whnf)
        | (refine vRens_dat hs.dat ?_; conv => whnf)
        | (refine vDOL_dat hs.dat ?_; conv => whnf)
        | (refine vq_i (x := [0]) (reach_11 hs.dat) ?_; conv => whnf)
        | (refine vq_i (x := [0]) (reach_10 hs.dat) ?_; conv => whnf)
        | (refine vq_i (x := [0]) (reach_00 hs.dat) ?_; conv => whnf)
        | fail)
      exact ⟨y ++ [c], rfl, rfl, rfl, by rw [List.length_append, List.length_singleton]; exact hx, w, hw, hwc⟩
theorem trim_ok (s : List UInt8) (hl : s.length ≤ 100000) : ∃ x, Pur F0 72 [S s, S [43, 45, 46, 48]] [] .no (.ret (S x)) .no ∧ (x = [] ↔ ∀ c ∈ s, isCut c.toNat = true) := by
  refine pur_ret (σ := List UInt8) (g := S) (Q := fun x => x = [] ↔ ∀ c ∈ s, isCut c.toNat = true) (cf := cfn Tryz.f72) (by kernel_rfl) ?_
  conv => arg 3; reduce
  conv => whnf
  by_cases h0 : s = []
  · have q : seq s [] = true := by rw [seq_t]; exact h0
    repeat' (first
      | (refine vb_t rfl ?_; conv => whnf)
      | (refine vb_f rfl ?_; conv => whnf)
      | (refine vb_t (by assumption) ?_; conv => whnf)
      | (refine vb_f (by assumption) ?_; conv => whnf)
      | fail)
    exact ⟨_, rfl, rfl, by rw [h0]; exact ⟨fun _ c hc => (by cases hc), fun _ => rfl⟩⟩
  · have q : seq s [] = false := by rw [seq_f]; exact h0
    obtain ⟨cs, hs, hm⟩ := makeSet_ok
    obtain ⟨x, hx, hxl, w1, e1, c1⟩ := trimRight_ok s hl 131 hs
    obtain ⟨y, hy, _, w2, e2, c2, n2⟩ := trimLeft_ok x (by omega) 131 hs
    repeat' (first
      | (refine vb_t rfl ?_; conv => whnf)
      | (refine vb_f rfl ?_; conv => whnf)
      | (refine vb_t (by assumption) ?_; conv => whnf)
      | (refine vb_f (by assumption) ?_; conv => whnf)
      | (refine vb_f (by rw [ieq_f]; decide) ?_; conv => whnf)
      | (refine vb_f (by rw [seq_f]; decide) ?_; conv => whnf)
      | (refine vpur_i hm ?_; conv => whnf)
      | fail)
    refine mt_i ?_ (k_eq (h' := OR.v (.tup []) [⟨.mine, 131, .fix cs⟩]) ?_ ?_)
    · have e1 : Nat.beq cs.length 256 = true := by rw [hs.len]; rfl
      exact and3 e1 rfl (all_dat hs.dat)
    · refine congrArg (OR.v (.tup [])) (cons_eq (fix_eq ?_) rfl)
      exact splice_all (cs := cs) (by rw [hs.len]; rfl)
    conv => whnf
    repeat' (first
      | (refine vb_t rfl ?_; conv => whnf)
      | (refine vb_f rfl ?_; conv => whnf)
      | (refine vb_t (by assumption) ?_; conv => whnf)
      | (refine vb_f (by assumption) ?_; conv => whnf)
      | (refine vdrp_i hx ?_; conv => whnf)
      | (refine vdrp_i hy ?_; conv => whnf)
      | (refine vq_i (hand_a hs.dat _) ?_; conv => whnf)
      | (refine vq_i (hand_b hs.dat _) ?_; conv => whnf)
      | (refine vq_i (renH_dat hs.dat _) ?_; conv => whnf)
      | (refine vRens_dat hs.dat ?_; conv => whnf)
      | (refine vDOL_dat hs.dat ?_; conv => whnf)
      | (refine vq_i (x := [0]) (reach_11 hs.dat) ?_; conv => whnf)
      | (refine vq_i (x := [0]) (reach_10 hs.dat) ?_; conv => whnf)
      | (refine vq_i (x := [0]) (reach_00 hs.dat) ?_; conv => whnf)
      | fail)
    refine ⟨_, rfl, rfl, fun hy0 c hm => ?_, fun h => ?_⟩
    · rw [e1, e2, hy0, List.append_nil] at hm
      rcases List.mem_append.1 hm with hm | hm
      · exact c2 c hm
      · exact c1 c hm
    · cases y with
      | nil => rfl
      | cons d t =>
        have h1 := h d (by rw [e1, e2]; simp)
        rw [n2 d t rfl] at h1
        cases h1
theorem indexByteString_ok (s : List UInt8) (c : UInt8) (h : Heap) : Pur F0 117 [S s, .d (.int .u8 c.toNat)] h .no (.ret (I (Lib.indexByte s c))) .no := by
  have e : Lib.indexByte s c = Lib.indexByte s (UInt8.ofNat ((c.toNat : Nat) : Int).toNat) := by rw [Int.toNat_natCast, UInt8.ofNat_toNat]
  rw [e]
  exact pur_known (g := kIndexByte) (by kernel_rfl) rfl
theorem indexByte_ok (s : List UInt8) (c : UInt8) : Pur F0 99 [S s, .d (.int .u8 c.toNat)] [] .no (.ret (I (Lib.indexByte s c))) .no := by
  refine pur_code (cf := cfn Tryz.f99) (by kernel_rfl) ?_
  conv => arg 3; reduce
  conv => whnf
  repeat' (first
    | (refine vb_t rfl ?_; conv => whnf)
    | (refine vb_f rfl ?_; conv => whnf)
    | (refine vb_t (by assumption) ?_; conv => whnf)
    | (refine vb_f (by assumption) ?_; conv => whnf)
    | (refine vpur_i (indexByteString_ok s c _) ?_; conv => whnf)
    | fail)
  exact ⟨rfl, rfl⟩
theorem indexByte_lt (s : List UInt8) (c : UInt8) : Lib.indexByte s c < s.length := by
  induction s with
  | nil => show (-1 : Int) < 0; decide
  | cons b l ih =>
    unfold Lib.indexByte
    simp only [List.length_cons]
    split
    · omega
    · split <;> omega
theorem index_ok (s : List UInt8) (c : UInt8) : ∃ i : Int, Pur F0 80 [S s, S [c]] [] .no (.ret (I i)) .no ∧ i = Lib.indexByte s c := by
  refine pur_ret (σ := Int) (g := I) (Q := fun i => i = Lib.indexByte s c) (cf := cfn Tryz.f80) (by kernel_rfl) ?_
  conv => arg 3; reduce
  conv => whnf
  have z0 : ieq (([c] : List UInt8).length : Int) (Int.ofNat 0) = false := by rw [ieq_f]; exact (by decide : (1 : Int) ≠ 0)
  have z1 : ieq (([c] : List UInt8).length : Int) (Int.ofNat 1) = true := by rw [ieq_t]; rfl
  have hc : iget [c] (Int.ofNat 0) = some c := iget_t (n := 0) rfl
  repeat' (first
    | (refine vb_t rfl ?_; conv => whnf)
    | (refine vb_f rfl ?_; conv => whnf)
    | (refine vb_t (by assumption) ?_; conv => whnf)
    | (refine vb_f (by assumption) ?_; conv => whnf)
    | (refine vo_i hc ?_; conv => whnf)
    | (refine vpur_i (indexByte_ok s c) ?_; conv => whnf)
    | fail)
  all_goals first
    | exact ⟨_, rfl, rfl, rfl⟩
    | skip
  refine vb_i (fun h => ?_) (fun h => ?_) <;> conv => whnf
  · rw [seq_t] at h
    repeat' (first
      | (refine vb_t rfl ?_; conv => whnf)
      | (refine vb_f rfl ?_; conv => whnf)
      | (refine vb_t (by assumption) ?_; conv => whnf)
      | (refine vb_f (by assumption) ?_; conv => whnf)
      | fail)
    exact ⟨0, rfl, rfl, by rw [← h]; simp [Lib.indexByte]⟩
  · repeat' (first
      | (refine vb_t rfl ?_; conv => whnf)
      | (refine vb_f rfl ?_; conv => whnf)
      | (refine vb_t (by assumption) ?_; conv => whnf)
      | (refine vb_f (by assumption) ?_; conv => whnf)
      | (refine vo_i hc ?_; conv => whnf)
      | (refine vpur_i (indexByte_ok s c) ?_; conv => whnf)
      | fail)
    exact ⟨_, rfl, rfl, rfl⟩
theorem indexByte_tw : ∀ s : List UInt8, (Lib.indexByte s 101 < 0 → s.takeWhile (· != 101) = s) ∧ (0 ≤ Lib.indexByte s 101 → s.takeWhile (· != 101) = s.take (Lib.indexByte s 101).toNat)
  | [] => ⟨fun _ => rfl, fun _ => rfl⟩
  | b :: l => by
    obtain ⟨h1, h2⟩ := indexByte_tw l
    have h3 := Lib.indexByte_ge l 101
    unfold Lib.indexByte
    by_cases hb : b = 101
    · subst hb
      rw [if_pos (by decide)]
      exact ⟨fun h => by omega, fun _ => rfl⟩
    · have e : (b == (101 : UInt8)) = false := by simpa using hb
      have e2 : (b != (101 : UInt8)) = true := by simpa using hb
      simp only [e, e2, List.takeWhile_cons, Bool.false_eq_true, if_false, if_true, beq_iff_eq]
      split
      · exact ⟨fun _ => by rw [h1 (by omega)], fun h => by omega⟩
      · refine ⟨fun h => by omega, fun _ => ?_⟩
        rw [h2 (by omega)]
        have : (Lib.indexByte l 101 + 1).toNat = (Lib.indexByte l 101).toNat + 1 := by omega
        rw [this, List.take_succ_cons]
theorem cut1_ok (s : List UInt8) (hs : s.length ≤ 100000) : ∃ x : List UInt8 × List UInt8 × Bool, Pur F0 100 [S s, S [101]] [] .no (.ret (.tup [S x.1, S x.2.1, B x.2.2])) .no ∧ x.1 = s.takeWhile (· != 101) := by
  refine pur_ret (σ := List UInt8 × List UInt8 × Bool) (g := fun x => .tup [S x.1, S x.2.1, B x.2.2]) (Q := fun x => x.1 = s.takeWhile (· != 101)) (cf := cfn Tryz.f100) (by kernel_rfl) ?_
  conv => arg 3; reduce
  conv => whnf
  obtain ⟨i, hi, hb⟩ := index_ok s 101
  have h1 := Lib.indexByte_ge s 101
  have h2 := indexByte_lt s 101
  obtain ⟨h3, h4⟩ := indexByte_tw s
  rw [← hb] at h1 h2 h3 h4
  repeat' (first
    | (refine vb_t rfl ?_; conv => whnf)
    | (refine vb_f rfl ?_; conv => whnf)
    | (refine vb_t (by assumption) ?_; conv => whnf)
    | (refine vb_f (by assumption) ?_; conv => whnf)
    | (refine vpur_i hi ?_; conv => whnf)
    | fail)
  refine vb_i (fun h => ?_) (fun h => ?_) <;> conv => whnf
  · have h0 : 0 ≤ i := by simp only [ile_t, ofn] at h; omega
    have he : iadd .i64 i (([101] : List UInt8).length : Int) = i + 1 := by
      show iadd .i64 i 1 = i + 1
      rw [iadd64] <;> omega
    have hr1 : icut s 0 i = some (s.take i.toNat) := by rw [icut_t (by omega) (by omega) (by omega)]; rfl
    obtain ⟨r2, hr2, hl2⟩ := scut_x (l := s) (a := iadd .i64 i (([101] : List UInt8).length : Int)) (b := (s.length : Int)) (by rw [he]; omega) (by rw [he]; omega) (by omega)
    repeat' (first
      | (refine vb_t rfl ?_; conv => whnf)
      | (refine vb_f rfl ?_; conv => whnf)
      | (refine vb_t (by assumption) ?_; conv => whnf)
      | (refine vb_f (by assumption) ?_; conv => whnf)
      | (refine vo_i hr1 ?_; conv => whnf)
      | (refine vo_i hr2 ?_; conv => whnf)
      | fail)
    exact ⟨(s.take i.toNat, r2, true), rfl, rfl, (h4 h0).symm⟩
  · have h0 : i < 0 := by simp only [ile_f, ofn] at h; omega
    repeat' (first
      | (refine vb_t rfl ?_; conv => whnf)
      | (refine vb_f rfl ?_; conv => whnf)
      | (refine vb_t (by assumption) ?_; conv => whnf)
      | (refine vb_f (by assumption) ?_; conv => whnf)
      | fail)
    exact ⟨(s, [], false), rfl, rfl, (h3 h0).symm⟩
theorem cut_ok (s : List UInt8) (hs : s.length ≤ 100000) : ∃ x : List UInt8 × List UInt8 × Bool, Pur F0 71 [S s, S [101]] [] .no (.ret (.tup [S x.1, S x.2.1, B x.2.2])) .no ∧ x.1 = s.takeWhile (· != 101) := by
  refine pur_ret (σ := List UInt8 × List UInt8 × Bool) (g := fun x => .tup [S x.1, S x.2.1, B x.2.2]) (Q := fun x => x.1 = s.takeWhile (· != 101)) (cf := cfn Tryz.f71) (by kernel_rfl) ?_
  conv => arg 3; reduce
  conv => whnf
  obtain ⟨x, hx, hb⟩ := cut1_ok s hs
  repeat' (first
    | (refine vb_t rfl ?_; conv => whnf)
    | (refine vb_f rfl ?_; conv => whnf)
    | (refine vb_t (by assumption) ?_; conv => whnf)
    | (refine vb_f (by assumption) ?_; conv => whnf)
    | (refine vpur_i hx ?_; conv => whnf)
    | fail)
  exact ⟨x, rfl, rfl, hb⟩
end Go.Proofs.YtjjolfgpphjhkaaGreatDoor.Ab
