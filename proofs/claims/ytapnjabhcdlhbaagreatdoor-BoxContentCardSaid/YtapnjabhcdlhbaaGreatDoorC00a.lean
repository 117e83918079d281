/- Go's strings: cut and trimmed. -/
import Derived.Test.YtapnjabhcdlhbaaGreatDoorAbSome
namespace Go.Proofs.YtapnjabhcdlhbaaGreatDoor.Ab
open Go
set_option linter.unusedSimpArgs false
set_option maxRecDepth 100000
set_option linter.unusedVariables false
set_option maxHeartbeats 4000000

theorem pur_closed {F : Nat → Option Fn} {f n : Nat} {args : List AV} {c : CR} {rc' : Rec} (h : ((ext F n).call f args [] .no).map (fun r => (r.r.map (deepOwn 0 r.h), r.rc)) = some (some c, rc')) : Pur F f args [] .no c rc' := by
  cases hr : (ext F n).call f args [] .no with
  | none => rw [hr] at h; cases h
  | some r =>
    rw [hr] at h
    simp only [Option.map_some, Option.some.injEq, Prod.mk.injEq] at h
    exact ⟨r, ⟨n, hr⟩, h.1, h.2⟩
/-- Cells that are data. -/
def Dat (cs : List AV) : Prop := ∃ ds : List DV, cs = ds.map AV.d
theorem refs_dat {cs : List AV} (h : Dat cs) : refs.refsL cs = [] := by
  obtain ⟨ds, rfl⟩ := h
  induction ds with
  | nil => rfl
  | cons d ds ih => simp only [List.map_cons, refs.refsL, refs, ih, List.append_nil]
theorem ren_dat {cs : List AV} (h : Dat cs) (m : Nat → Option Nat) : ren.renL m cs = some cs := by
  obtain ⟨ds, rfl⟩ := h
  induction ds with
  | nil => rfl
  | cons d ds ih => simp only [List.map_cons, ren.renL, ren, ih]
theorem vRens_dat {cs : List AV} (h : Dat cs) {m : Nat → Option Nat} {k : List AV → Prop} (e : k cs) : vRens m cs k := by
  obtain ⟨ds, rfl⟩ := h
  induction ds generalizing k with
  | nil => exact e
  | cons d ds ih => exact ih e
theorem vDOL_dat {cs : List AV} (h : Dat cs) {n : Nat} {hp : Heap} {k : List AV → Prop} (e : k cs) : vDOL n hp cs k := by
  obtain ⟨ds, rfl⟩ := h
  induction ds generalizing k with
  | nil => exact e
  | cons d ds ih => exact ih e
theorem all_dat {cs : List AV} (h : Dat cs) : cs.all celly = true := by
  obtain ⟨ds, rfl⟩ := h
  induction ds with
  | nil => rfl
  | cons d ds ih => simp only [List.map_cons, List.all_cons, ih]; rfl
theorem reach_11 {o : Own} {t : Nat} {cs : List AV} (h : Dat cs) : reach [⟨o, t, .fix cs⟩] 1000 [0, 0] [] = some [0] := by simp [reach, refsO, refs_dat h, memb]
theorem reach_10 {o : Own} {t : Nat} {cs : List AV} (h : Dat cs) : reach [⟨o, t, .fix cs⟩] 1000 [0] [] = some [0] := by simp [reach, refsO, refs_dat h, memb]
theorem reach_00 {o : Own} {t : Nat} {cs : List AV} (h : Dat cs) : reach [⟨o, t, .fix cs⟩] 100 [0] [] = some [0] := by simp [reach, refsO, refs_dat h, memb]
theorem hand_a {t : Nat} {cs : List AV} (h : Dat cs) (v : DV) : handRest id [⟨.mine, t, .fix cs⟩] [.ptr 0 0, .d v] [] = some ⟨[.ptr 0 0, .d v], [⟨.mine, t, .fix cs⟩], [0], []⟩ := by
  have e : refs.refsL [.ptr 0 0, .d v] = [0] := rfl
  simp only [handRest, e, reach_00 h]
  have e2 : renH (place · [0]) id [⟨.mine, t, .fix cs⟩] = some [⟨.mine, t, .fix cs⟩] := by simp [renH, renO, ren_dat h]
  have e3 : gather [⟨.mine, t, .fix cs⟩] [0] = some [⟨.mine, t, .fix cs⟩] := rfl
  have e4 : ren.renL (place · [0]) [.ptr 0 0, .d v] = some [.ptr 0 0, .d v] := rfl
  simp only [e2, e3, e4, disj]
theorem hand_b {t : Nat} {cs : List AV} (h : Dat cs) (v : DV) : handRest id [⟨.mine, t, .fix cs⟩] [.d v, .ptr 0 0] [] = some ⟨[.d v, .ptr 0 0], [⟨.mine, t, .fix cs⟩], [0], []⟩ := by
  have e : refs.refsL [.d v, .ptr 0 0] = [0] := rfl
  simp only [handRest, e, reach_00 h]
  have e2 : renH (place · [0]) id [⟨.mine, t, .fix cs⟩] = some [⟨.mine, t, .fix cs⟩] := by simp [renH, renO, ren_dat h]
  have e3 : gather [⟨.mine, t, .fix cs⟩] [0] = some [⟨.mine, t, .fix cs⟩] := rfl
  have e4 : ren.renL (place · [0]) [.d v, .ptr 0 0] = some [.d v, .ptr 0 0] := rfl
  simp only [e2, e3, e4, disj]
theorem renH_dat {o : Own} {t : Nat} {cs : List AV} (h : Dat cs) (m : Nat → Option Nat) : renH m id [⟨o, t, .fix cs⟩] = some [⟨o, t, .fix cs⟩] := by simp [renH, renO, ren_dat h]
theorem scut_x {l : List UInt8} {a b : Int} (h1 : 0 ≤ a) (h2 : a ≤ b) (h3 : b ≤ l.length) : ∃ r : List UInt8, icut l a b = some r ∧ (r.length : Int) = b - a :=
  ⟨(l.take b.toNat).drop a.toNat, icut_t h1 h2 h3, by simp; omega⟩
theorem vq_i {α : Type} {o : Option α} {x : α} {k : α → Prop} (h : o = some x) (e : k x) : vq o k := by subst h; exact e
theorem and3 {a b c : Bool} (h1 : a = true) (h2 : b = true) (h3 : c = true) : (a && b && c) = true := by rw [h1, h2, h3]; rfl
def mtw (b : Bool) (X : Prop) : Prop := match b with
  | true => X
  | false => False
theorem mt_i {b : Bool} {X : Prop} (h : b = true) (e : X) : mtw b X := by subst h; exact e
theorem k_eq {α : Type} {k : α → Prop} {h h' : α} (e : h = h') (x : k h') : k h := by subst e; exact x
theorem splice_all {L cs : List AV} (h : L.length = cs.length) : splice L 0 cs = cs := by
  unfold splice; rw [List.take_zero, List.nil_append, Nat.zero_add, List.drop_eq_nil_of_le (by omega), List.append_nil]
def isCut (n : Nat) : Bool := Nat.beq n 43 || Nat.beq n 45 || Nat.beq n 46 || Nat.beq n 48
def cutSet : List AV := (List.range 256).map fun n => B (isCut n)
/-- The set of what is trimmed, as a list that is not opened. -/
structure IsSet (cs : List AV) : Prop where
  dat : Dat cs
  get : ∀ n, n < 256 → cs[n]? = some (B (isCut n))
  len : cs.length = 256
theorem isSet : IsSet cutSet := ⟨⟨(List.range 256).map fun n => .bool (isCut n), by unfold cutSet; rw [List.map_map]; rfl⟩, fun n h => by unfold cutSet; rw [List.getElem?_map, List.getElem?_range h]; rfl, by unfold cutSet; simp⟩
theorem makeSet_ok : ∃ cs, IsSet cs ∧ Pur F0 166 [S [43, 45, 46, 48]] [] .no (.ret (.tup [.agg cs, B true])) .no :=
  ⟨cutSet, isSet, pur_closed (n := 10) (by kernel_rfl)⟩
theorem contains_ok (c : UInt8) (t : Nat) {cs : List AV} (hs : IsSet cs) : Drp F0 1 207 [.ptr 0 0, .d (.int .u8 c.toNat)] [⟨.mine, t, .fix cs⟩] .no (.ret (B (isCut c.toNat))) [⟨.mine, t, .fix cs⟩] .no := by
  have h1 := c.toNat_lt
  have hr : (ile 0 (c.toNat : Int) && ilt (c.toNat : Int) (256 : Nat)) = true := by rw [Bool.and_eq_true, ile_t, ilt_t]; omega
  refine drp_code (cf := cfn Tryz.f207) (by kernel_rfl) ?_
  conv => arg 3; reduce
  conv => whnf
  repeat' (first
    | (refine vb_t rfl ?_; conv => whnf)
    | (refine vb_f rfl ?_; conv => whnf)
    | (refine vb_t (by assumption) ?_; conv => whnf)
    | (refine vb_f (by assumption) ?_; conv => whnf)
    | fail)
  have hg : part cs (0 + ((c.toNat : Nat) : Int).toNat * 1) none = some (B (isCut c.toNat)) := by
    show cs[0 + ((c.toNat : Nat) : Int).toNat * 1]? = _
    rw [Nat.zero_add, Nat.mul_one, Int.toNat_natCast]
    exact hs.get _ h1
  rw [hg]
  conv => whnf
  refine vDOL_dat hs.dat ?_
  conv => whnf
  exact ⟨rfl, rfl, rfl⟩
def trimQ (s : List UInt8) (t : Nat) (cs : List AV) (c : CR) (g : Heap) (rc : Rec) : Prop := ∃ x, c = .ret (S x) ∧ g = [⟨.mine, t, .fix cs⟩] ∧ rc = .no ∧ x.length ≤ s.length
theorem trimLeft_ok (s : List UInt8) (hl : s.length ≤ 100000) (t : Nat) {cs : List AV} (hs : IsSet cs) : ∃ x, Drp F0 1 167 [S s, .ptr 0 0] [⟨.mine, t, .fix cs⟩] .no (.ret (S x)) [⟨.mine, t, .fix cs⟩] .no ∧ x.length ≤ s.length := by
  suffices h : ∃ c g rc', Drp F0 1 167 [S s, .ptr 0 0] [⟨.mine, t, .fix cs⟩] .no c g rc' ∧ trimQ s t cs c g rc' by
    obtain ⟨c, g, rc', h1, x, rfl, rfl, rfl, h2⟩ := h
    exact ⟨x, h1, h2⟩
  refine drp_some (cf := cfn Tryz.f167) (by kernel_rfl) ?_
  conv => arg 3; reduce
  conv => whnf
  refine vq_i (x := [0]) (reach_11 hs.dat) ?_
  conv => whnf
  refine vRens_dat hs.dat ?_
  conv => whnf
  refine vloop_by (σ := { x : List UInt8 // x.length ≤ s.length }) (fun x => [(0, S x.1), (1, .ptr 0 0), (4, S [])]) (fun _ => [⟨.mine, t, .fix cs⟩]) (fun x => x.1.length) ?_ ⟨s, Nat.le_refl _⟩
  rintro ⟨x, hx⟩
  conv => whnf
  refine vb_i (fun h => ?_) (fun h => ?_) <;> conv => whnf
  · have h0 : 0 < x.length := by (first | omega | (simp only [ilt_t, ilt_f, ile_t, ile_f, ieq_t, ieq_f, ofn, List.length_map, Bool.not_eq_true', Bool.not_eq_false'] at *; omega))
    obtain ⟨c, hc⟩ := iget_x (l := x) (n := Int.ofNat 0) (by (first | omega | (simp only [ilt_t, ilt_f, ile_t, ile_f, ieq_t, ieq_f, ofn, List.length_map, Bool.not_eq_true', Bool.not_eq_false'] at *; omega))) (by (first | omega | (simp only [ilt_t, ilt_f, ile_t, ile_f, ieq_t, ieq_f, ofn, List.length_map, Bool.not_eq_true', Bool.not_eq_false'] at *; omega)))
    repeat' (first
      | (refine vb_t rfl ?_; conv => whnf)
      | (refine vb_f rfl ?_; conv => whnf)
      | (refine vb_t (by assumption) ?_; conv => whnf)
      | (refine vb_f (by assumption) ?_; conv => whnf)
      | (refine vo_i hc ?_; conv => whnf)
      | (refine vdrp_i (contains_ok c t hs) ?_; conv => whnf)
      | (refine vq_i (hand_a hs.dat _) ?_; conv => whnf)
      | (refine vq_i (hand_b hs.dat _) ?_; conv => whnf)
      | (refine vq_i (renH_dat hs.dat _) ?_; conv => whnf)
      | (refine vRens_dat hs.dat ?_; conv => whnf)
      | (refine vDOL_dat hs.dat ?_; conv => whnf)
      | (refine vq_i (x := [0]) (reach_11 hs.dat) ?_; conv => whnf)
      | (refine vq_i (x := [0]) (reach_10 hs.dat) ?_; conv => whnf)
      | (refine vq_i (x := [0]) (reach_00 hs.dat) ?_; conv => whnf)
      | fail)
    refine vb_i (fun h => ?_) (fun h => ?_) <;> conv => whnf
    · repeat' (first
        | (refine vb_t rfl ?_; conv => whnf)
        | (refine vb_f rfl ?_; conv => whnf)
        | (refine vb_t (by assumption) ?_; conv => whnf)
        | (refine vb_f (by assumption) ?_; conv => whnf)
        | (refine vq_i (hand_a hs.dat _) ?_; conv => whnf)
        | (refine vq_i (hand_b hs.dat _) ?_; conv => whnf)
        | (refine vq_i (renH_dat hs.dat _) ?_; conv => whnf)
        | (refine vRens_dat hs.dat ?_; conv => whnf)
        | (refine vDOL_dat hs.dat ?_; conv => whnf)
        | (refine vq_i (x := [0]) (reach_11 hs.dat) ?_; conv => whnf)
        | (refine vq_i (x := [0]) (reach_10 hs.dat) ?_; conv => whnf)
        | (refine vq_i (x := [0]) (reach_00 hs.dat) ?_; conv => whnf)
        | fail)
      exact ⟨x, rfl, rfl, rfl, hx⟩
    · obtain ⟨r, hr, hrl⟩ := scut_x (l := x) (a := Int.ofNat 1) (b := (x.length : Int)) (by (first | omega | (simp only [ilt_t, ilt_f, ile_t, ile_f, ieq_t, ieq_f, ofn, List.length_map, Bool.not_eq_true', Bool.not_eq_false'] at *; omega))) (by (first | omega | (simp only [ilt_t, ilt_f, ile_t, ile_f, ieq_t, ieq_f, ofn, List.length_map, Bool.not_eq_true', Bool.not_eq_false'] at *; omega))) (by (first | omega | (simp only [ilt_t, ilt_f, ile_t, ile_f, ieq_t, ieq_f, ofn, List.length_map, Bool.not_eq_true', Bool.not_eq_false'] at *; omega)))
      simp only [ofn] at hrl
      repeat' (first
        | (refine vb_t rfl ?_; conv => whnf)
        | (refine vb_f rfl ?_; conv => whnf)
        | (refine vb_t (by assumption) ?_; conv => whnf)
        | (refine vb_f (by assumption) ?_; conv => whnf)
        | (refine vo_i hr ?_; conv => whnf)
        | (refine vq_i (hand_a hs.dat _) ?_; conv => whnf)
        | (refine vq_i (hand_b hs.dat _) ?_; conv => whnf)
        | (refine vq_i (renH_dat hs.dat _) ?_; conv => whnf)
        | (refine vRens_dat hs.dat ?_; conv => whnf)
        | (refine vDOL_dat hs.dat ?_; conv => whnf)
        | (refine vq_i (x := [0]) (reach_11 hs.dat) ?_; conv => whnf)
        | (refine vq_i (x := [0]) (reach_10 hs.dat) ?_; conv => whnf)
        | (refine vq_i (x := [0]) (reach_00 hs.dat) ?_; conv => whnf)
        | fail)
      exact ⟨⟨r, by omega⟩, by simp only; omega, rfl, rfl, rfl, rfl⟩
  · repeat' (first
      | (refine vb_t rfl ?_; conv => whnf)
      | (refine vb_f rfl ?_; conv => whnf)
      | (refine vb_t (by assumption) ?_; conv => whnf)
      | (refine vb_f (by assumption) ?_; conv => whnf)
      | (refine vq_i (hand_a hs.dat _) ?_; conv => whnf)
      | (refine vq_i (hand_b hs.dat _) ?_; conv => whnf)
      | (refine vq_i (renH_dat hs.dat _) ?_; conv => whnf)
      | (refine vRens_dat hs.dat ?_; conv => whnf)
      | (refine vDOL_dat hs.dat ?_; conv => whnf)
      | (refine vq_i (x := [0]) (reach_11 hs.dat) ?_; conv => whnf)
      | (refine vq_i (x := [0]) (reach_10 hs.dat) ?_; conv => whnf)
      | (refine vq_i (x := [0]) (reach_00 hs.dat) ?_; conv => whnf)
      | fail)
    exact ⟨x, rfl, rfl, rfl, hx⟩
theorem trimRight_ok (s : List UInt8) (hl : s.length ≤ 100000) (t : Nat) {cs : List AV} (hs : IsSet cs) : ∃ x, Drp F0 1 168 [S s, .ptr 0 0] [⟨.mine, t, .fix cs⟩] .no (.ret (S x)) [⟨.mine, t, .fix cs⟩] .no ∧ x.length ≤ s.length := by
  suffices h : ∃ c g rc', Drp F0 1 168 [S s, .ptr 0 0] [⟨.mine, t, .fix cs⟩] .no c g rc' ∧ trimQ s t cs c g rc' by
    obtain ⟨c, g, rc', h1, x, rfl, rfl, rfl, h2⟩ := h
    exact ⟨x, h1, h2⟩
  refine drp_some (cf := cfn Tryz.f168) (by kernel_rfl) ?_
  conv => arg 3; reduce
  conv => whnf
  refine vq_i (x := [0]) (reach_11 hs.dat) ?_
  conv => whnf
  refine vRens_dat hs.dat ?_
  conv => whnf
  refine vloop_by (σ := { x : List UInt8 // x.length ≤ s.length }) (fun x => [(0, S x.1), (1, .ptr 0 0), (4, S [])]) (fun _ => [⟨.mine, t, .fix cs⟩]) (fun x => x.1.length) ?_ ⟨s, Nat.le_refl _⟩
  rintro ⟨x, hx⟩
  conv => whnf
  refine vb_i (fun h => ?_) (fun h => ?_) <;> conv => whnf
  · have h0 : 0 < x.length := by (first | omega | (simp only [ilt_t, ilt_f, ile_t, ile_f, ieq_t, ieq_f, ofn, List.length_map, Bool.not_eq_true', Bool.not_eq_false'] at *; omega))
    have he : isub .i64 (x.length : Int) (Int.ofNat 1) = (x.length : Int) - 1 := by rw [isub64] <;> simp <;> omega
    obtain ⟨c, hc⟩ := iget_x (l := x) (n := isub .i64 (x.length : Int) (Int.ofNat 1)) (by rw [he]; omega) (by rw [he]; omega)
    repeat' (first
      | (refine vb_t rfl ?_; conv => whnf)
      | (refine vb_f rfl ?_; conv => whnf)
      | (refine vb_t (by assumption) ?_; conv => whnf)
      | (refine vb_f (by assumption) ?_; conv => whnf)
      | (refine vo_i hc ?_; conv => whnf)
      | (refine vdrp_i (contains_ok c t hs) ?_; conv => whnf)
      | (refine vq_i (hand_a hs.dat _) ?_; conv => whnf)
      | (refine vq_i (hand_b hs.dat _) ?_; conv => whnf)
      | (refine vq_i (renH_dat hs.dat _) ?_; conv => whnf)
      | (refine vRens_dat hs.dat ?_; conv => whnf)
      | (refine vDOL_dat hs.dat ?_; conv => whnf)
      | (refine vq_i (x := [0]) (reach_11 hs.dat) ?_; conv => whnf)
      | (refine vq_i (x := [0]) (reach_10 hs.dat) ?_; conv => whnf)
      | (refine vq_i (x := [0]) (reach_00 hs.dat) ?_; conv => whnf)
      | fail)
    refine vb_i (fun h => ?_) (fun h => ?_) <;> conv => whnf
    · repeat' (first
        | (refine vb_t rfl ?_; conv => whnf)
        | (refine vb_f rfl ?_; conv => whnf)
        | (refine vb_t (by assumption) ?_; conv => whnf)
        | (refine vb_f (by assumption) ?_; conv => whnf)
        | (refine vq_i (hand_a hs.dat _) ?_; conv => whnf)
        | (refine vq_i (hand_b hs.dat _) ?_; conv => whnf)
        | (refine vq_i (renH_dat hs.dat _) ?_; conv => whnf)
        | (refine vRens_dat hs.dat ?_; conv => whnf)
        | (refine vDOL_dat hs.dat ?_; conv => whnf)
        | (refine vq_i (x := [0]) (reach_11 hs.dat) ?_; conv => whnf)
        | (refine vq_i (x := [0]) (reach_10 hs.dat) ?_; conv => whnf)
        | (refine vq_i (x := [0]) (reach_00 hs.dat) ?_; conv => whnf)
        | fail)
      exact ⟨x, rfl, rfl, rfl, hx⟩
    · obtain ⟨r, hr, hrl⟩ := scut_x (l := x) (a := 0) (b := isub .i64 (x.length : Int) (Int.ofNat 1)) (by omega) (by rw [he]; omega) (by rw [he]; omega)
      rw [he] at hrl
      repeat' (first
        | (refine vb_t rfl ?_; conv => whnf)
        | (refine vb_f rfl ?_; conv => whnf)
        | (refine vb_t (by assumption) ?_; conv => whnf)
        | (refine vb_f (by assumption) ?_; conv => whnf)
        | (refine vo_i hr ?_; conv => whnf)
        | (refine vq_i (hand_a hs.dat _) ?_; conv => whnf)
        | (refine vq_i (hand_b hs.dat _) ?_; conv => whnf)
        | (refine vq_i (renH_dat hs.dat _) ?_; conv => whnf)
        | (refine vRens_dat hs.dat ?_; conv => whnf)
        | (refine vDOL_dat hs.dat ?_; conv => whnf)
        | (refine vq_i (x := [0]) (reach_11 hs.dat) ?_; conv => whnf)
        | (refine vq_i (x := [0]) (reach_10 hs.dat) ?_; conv => whnf)
        | (refine vq_i (x := [0]) (reach_00 hs.dat) ?_; conv => whnf)
        | fail)
      exact ⟨⟨r, by omega⟩, by simp only; omega, rfl, rfl, rfl, rfl⟩
  · repeat' (first
      | (refine vb_t rfl ?_; conv => whnf)
      | (refine vb_f rfl ?_; conv => whnf)
      | (refine vb_t (by assumption) ?_; conv => whnf)
      | (refine vb_f (by assumption) ?_; conv => whnf)
      | (refine vq_i (hand_a hs.dat _) ?_; conv => whnf)
      | (refine vq_i (hand_b hs.dat _) ?_; conv => whnf)
      | (refine vq_i (renH_dat hs.dat _) ?_; conv => whnf)
      | (refine vRens_dat hs.dat ?_; conv => whnf)
      | (refine vDOL_dat hs.dat ?_; conv => whnf)
      | (refine vq_i (x := [0]) (reach_11 hs.dat) ?_; conv => whnf)
      | (refine vq_i (x := [0]) (reach_10 hs.dat) ?_; conv => whnf)
      | (refine vq_i (x := [0]) (reach_00 hs.dat) ?_; conv => whnf)
      | fail)
    exact ⟨x, rfl, rfl, rfl, hx⟩
theorem trim_ok (s : List UInt8) (hl : s.length ≤ 100000) : ∃ x, Pur F0 123 [S s, S [43, 45, 46, 48]] [] .no (.ret (S x)) .no ∧ True := by
  refine pur_ret (σ := List UInt8) (g := S) (Q := fun _ => True) (cf := cfn Tryz.f123) (by kernel_rfl) ?_
  conv => arg 3; reduce
  conv => whnf
  by_cases h0 : s = []
  · have q : seq s [] = true := by rw [seq_t]; exact h0
    repeat' (first
      | (refine vb_t rfl ?_; conv => whnf)
      | (refine vb_f rfl ?_; conv => whnf)
      | (refine vb_t (by assumption) ?_; conv => whnf)
      | (refine vb_f (by assumption) ?_; conv => whnf)
      | fail)
    exact ⟨_, rfl, rfl, trivial⟩
  · have q : seq s [] = false := by rw [seq_f]; exact h0
    obtain ⟨cs, hs, hm⟩ := makeSet_ok
    obtain ⟨x, hx, hxl⟩ := trimRight_ok s hl 186 hs
    obtain ⟨y, hy, _⟩ := trimLeft_ok x (by omega) 186 hs
    repeat' (first
      | (refine vb_t rfl ?_; conv => whnf)
      | (refine vb_f rfl ?_; conv => whnf)
      | (refine vb_t (by assumption) ?_; conv => whnf)
      | (refine vb_f (by assumption) ?_; conv => whnf)
      | (refine vb_f (by rw [ieq_f]; decide) ?_; conv => whnf)
      | (refine vb_f (by rw [seq_f]; decide) ?_; conv => whnf)
      | (refine vpur_i hm ?_; conv => whnf)
      | fail)
    refine mt_i ?_ (k_eq (h' := OR.v (.tup []) [⟨.mine, 186, .fix cs⟩]) ?_ ?_)
    · have e1 : Nat.beq cs.length 256 = true := by rw [hs.len]; rfl
      exact and3 e1 rfl (all_dat hs.dat)
    · refine congrArg (OR.v (.tup [])) (cons_eq (fix_eq ?_) rfl)
      exact splice_all (cs := cs) (by rw [hs.len]; rfl)
    conv => whnf
    repeat' (first
      | (refine vb_t rfl ?_; conv => whnf)
      | (refine vb_f rfl ?_; conv => whnf)
      | (refine vb_t (by assumption) ?_; conv => whnf)
      | (refine vb_f (by assumption) ?_; conv => whnf)
      | (refine vdrp_i hx ?_; conv => whnf)
      | (refine vdrp_i hy ?_; conv => whnf)
      | (refine vq_i (hand_a hs.dat _) ?_; conv => whnf)
      | (refine vq_i (hand_b hs.dat _) ?_; conv => whnf)
      | (refine vq_i (renH_dat hs.dat _) ?_; conv => whnf)
      | (refine vRens_dat hs.dat ?_; conv => whnf)
      | (refine vDOL_dat hs.dat ?_; conv => whnf)
      | (refine vq_i (x := [0]) (reach_11 hs.dat) ?_; conv => whnf)
      | (refine vq_i (x := [0]) (reach_10 hs.dat) ?_; conv => whnf)
      | (refine vq_i (x := [0]) (reach_00 hs.dat) ?_; conv => whnf)
      | fail)
    exact ⟨_, rfl, rfl, trivial⟩
theorem indexByteString_ok (s : List UInt8) (h : Heap) : Pur F0 230 [S s, .d (.int .u8 101)] h .no (.ret (I (Lib.indexByte s 101))) .no := pur_known (g := kIndexByte) (by kernel_rfl) rfl
theorem indexByte_ok (s : List UInt8) : Pur F0 206 [S s, .d (.int .u8 101)] [] .no (.ret (I (Lib.indexByte s 101))) .no := by
  refine pur_code (cf := cfn Tryz.f206) (by kernel_rfl) ?_
  conv => arg 3; reduce
  conv => whnf
  repeat' (first
    | (refine vb_t rfl ?_; conv => whnf)
    | (refine vb_f rfl ?_; conv => whnf)
    | (refine vb_t (by assumption) ?_; conv => whnf)
    | (refine vb_f (by assumption) ?_; conv => whnf)
    | (refine vpur_i (indexByteString_ok s _) ?_; conv => whnf)
    | fail)
  exact ⟨rfl, rfl⟩
theorem indexByte_lt (s : List UInt8) (c : UInt8) : Lib.indexByte s c < s.length := by
  induction s with
  | nil => show (-1 : Int) < 0; decide
  | cons b l ih =>
    unfold Lib.indexByte
    simp only [List.length_cons]
    split
    · omega
    · split <;> omega
theorem index_ok (s : List UInt8) : ∃ i : Int, Pur F0 192 [S s, S [101]] [] .no (.ret (I i)) .no ∧ (-1 ≤ i ∧ i < s.length ∨ i = 0 ∧ s = [101]) := by
  refine pur_ret (σ := Int) (g := I) (Q := fun i => -1 ≤ i ∧ i < s.length ∨ i = 0 ∧ s = [101]) (cf := cfn Tryz.f192) (by kernel_rfl) ?_
  conv => arg 3; reduce
  conv => whnf
  have hc : iget [101] (Int.ofNat 0) = some (101 : UInt8) := iget_t (n := 0) rfl
  have h1 := Lib.indexByte_ge s 101
  have h2 := indexByte_lt s 101
  repeat' (first
    | (refine vb_t rfl ?_; conv => whnf)
    | (refine vb_f rfl ?_; conv => whnf)
    | (refine vb_t (by assumption) ?_; conv => whnf)
    | (refine vb_f (by assumption) ?_; conv => whnf)
    | (refine vb_f (by rw [ieq_f]; decide) ?_; conv => whnf)
    | (refine vb_t (by rw [ieq_t]; decide) ?_; conv => whnf)
    | fail)
  refine vb_i (fun h => ?_) (fun h => ?_) <;> conv => whnf
  · rw [seq_t] at h
    repeat' (first
      | (refine vb_t rfl ?_; conv => whnf)
      | (refine vb_f rfl ?_; conv => whnf)
      | (refine vb_t (by assumption) ?_; conv => whnf)
      | (refine vb_f (by assumption) ?_; conv => whnf)
      | fail)
    exact ⟨0, rfl, rfl, .inr ⟨rfl, h.symm⟩⟩
  · repeat' (first
      | (refine vb_t rfl ?_; conv => whnf)
      | (refine vb_f rfl ?_; conv => whnf)
      | (refine vb_t (by assumption) ?_; conv => whnf)
      | (refine vb_f (by assumption) ?_; conv => whnf)
      | (refine vb_f (by rw [ieq_f]; decide) ?_; conv => whnf)
      | (refine vb_t (by rw [ieq_t]; decide) ?_; conv => whnf)
      | (refine vo_i hc ?_; conv => whnf)
      | (refine vpur_i (indexByte_ok s) ?_; conv => whnf)
      | fail)
    exact ⟨_, rfl, rfl, .inl ⟨h1, h2⟩⟩
theorem cut1_ok (s : List UInt8) (hs : s.length ≤ 100000) : ∃ x : List UInt8 × List UInt8 × Bool, Pur F0 163 [S s, S [101]] [] .no (.ret (.tup [S x.1, S x.2.1, B x.2.2])) .no ∧ x.1.length ≤ s.length := by
  refine pur_ret (σ := List UInt8 × List UInt8 × Bool) (g := fun x => .tup [S x.1, S x.2.1, B x.2.2]) (Q := fun x => x.1.length ≤ s.length) (cf := cfn Tryz.f163) (by kernel_rfl) ?_
  conv => arg 3; reduce
  conv => whnf
  obtain ⟨i, hi, hb⟩ := index_ok s
  repeat' (first
    | (refine vb_t rfl ?_; conv => whnf)
    | (refine vb_f rfl ?_; conv => whnf)
    | (refine vb_t (by assumption) ?_; conv => whnf)
    | (refine vb_f (by assumption) ?_; conv => whnf)
    | (refine vpur_i hi ?_; conv => whnf)
    | fail)
  refine vb_i (fun h => ?_) (fun h => ?_) <;> conv => whnf
  · have hl : (s = [101] → s.length = 1) := fun e => by rw [e]; rfl
    have h0 : 0 ≤ i ∧ i + 1 ≤ s.length := by
      simp only [ile_t, ofn] at h
      rcases hb with ⟨_, hb⟩ | ⟨rfl, hb⟩
      · omega
      · have := hl hb; omega
    have he : iadd .i64 i (([101] : List UInt8).length : Int) = i + 1 := by
      show iadd .i64 i 1 = i + 1
      rw [iadd64] <;> omega
    obtain ⟨r1, hr1, hl1⟩ := scut_x (l := s) (a := 0) (b := i) (by omega) (by omega) (by omega)
    obtain ⟨r2, hr2, hl2⟩ := scut_x (l := s) (a := iadd .i64 i (([101] : List UInt8).length : Int)) (b := (s.length : Int)) (by rw [he]; omega) (by rw [he]; omega) (by omega)
    repeat' (first
      | (refine vb_t rfl ?_; conv => whnf)
      | (refine vb_f rfl ?_; conv => whnf)
      | (refine vb_t (by assumption) ?_; conv => whnf)
      | (refine vb_f (by assumption) ?_; conv => whnf)
      | (refine vo_i hr1 ?_; conv => whnf)
      | (refine vo_i hr2 ?_; conv => whnf)
      | fail)
    exact ⟨(r1, r2, true), rfl, rfl, by simp only; omega⟩
  · repeat' (first
      | (refine vb_t rfl ?_; conv => whnf)
      | (refine vb_f rfl ?_; conv => whnf)
      | (refine vb_t (by assumption) ?_; conv => whnf)
      | (refine vb_f (by assumption) ?_; conv => whnf)
      | fail)
    exact ⟨(s, [], false), rfl, rfl, Nat.le_refl _⟩
theorem cut_ok (s : List UInt8) (hs : s.length ≤ 100000) : ∃ x : List UInt8 × List UInt8 × Bool, Pur F0 122 [S s, S [101]] [] .no (.ret (.tup [S x.1, S x.2.1, B x.2.2])) .no ∧ x.1.length ≤ s.length := by
  refine pur_ret (σ := List UInt8 × List UInt8 × Bool) (g := fun x => .tup [S x.1, S x.2.1, B x.2.2]) (Q := fun x => x.1.length ≤ s.length) (cf := cfn Tryz.f122) (by kernel_rfl) ?_
  conv => arg 3; reduce
  conv => whnf
  obtain ⟨x, hx, hb⟩ := cut1_ok s hs
  repeat' (first
    | (refine vb_t rfl ?_; conv => whnf)
    | (refine vb_f rfl ?_; conv => whnf)
    | (refine vb_t (by assumption) ?_; conv => whnf)
    | (refine vb_f (by assumption) ?_; conv => whnf)
    | (refine vpur_i hx ?_; conv => whnf)
    | fail)
  exact ⟨x, rfl, rfl, hb⟩
end Go.Proofs.YtapnjabhcdlhbaaGreatDoor.Ab
