/- Some texts as one, one behind the other; what is not leaned on is left out. -/
import Derived.Test.YtjeblkicgmmhiaaGreatDoorAbSome
import Derived.Test.YtjeblkicgmmhiaaGreatDoorAbCfg
import Derived.Lib.Mul64
import Derived.Test.YtjeblkicgmmhiaaGreatDoorC00q
namespace Go.Proofs.YtjeblkicgmmhiaaGreatDoor.Ab
open Go
set_option linter.unusedSimpArgs false
set_option maxRecDepth 100000
set_option linter.unusedVariables false
set_option maxHeartbeats 4000000
theorem pur_closed {F : Nat → Option Fn} {f n : Nat} {args : List AV} {c : CR} {rc' : Rec} (h : ((ext F n).call f args [] .no).map (fun r => (r.r.map (deepOwn 0 r.h), r.rc)) = some (some c, rc')) : Pur F f args [] .no c rc' := by
  cases hr : (ext F n).call f args [] .no with
  | none => rw [hr] at h; cases h
  | some r =>
    rw [hr] at h
    simp only [Option.map_some, Option.some.injEq, Prod.mk.injEq] at h
    exact ⟨r, ⟨n, hr⟩, h.1, h.2⟩
/-- Cells that are data. -/
def Dat (cs : List AV) : Prop := ∃ ds : List DV, cs = ds.map AV.d
theorem refs_dat {cs : List AV} (h : Dat cs) : refs.refsL cs = [] := by
  obtain ⟨ds, rfl⟩ := h
  induction ds with
  | nil => rfl
  | cons d ds ih => simp only [List.map_cons, refs.refsL, refs, ih, List.append_nil]
theorem ren_dat {cs : List AV} (h : Dat cs) (m : Nat → Option Nat) : ren.renL m cs = some cs := by
  obtain ⟨ds, rfl⟩ := h
  induction ds with
  | nil => rfl
  | cons d ds ih => simp only [List.map_cons, ren.renL, ren, ih]
theorem vRens_dat {cs : List AV} (h : Dat cs) {m : Nat → Option Nat} {k : List AV → Prop} (e : k cs) : vRens m cs k := by
  obtain ⟨ds, rfl⟩ := h
  induction ds generalizing k with
  | nil => exact e
  | cons d ds ih => exact ih e
theorem vDOL_dat {cs : List AV} (h : Dat cs) {n : Nat} {hp : Heap} {k : List AV → Prop} (e : k cs) : vDOL n hp cs k := by
  obtain ⟨ds, rfl⟩ := h
  induction ds generalizing k with
  | nil => exact e
  | cons d ds ih => exact ih e
theorem all_dat {cs : List AV} (h : Dat cs) : cs.all celly = true := by
  obtain ⟨ds, rfl⟩ := h
  induction ds with
  | nil => rfl
  | cons d ds ih => simp only [List.map_cons, List.all_cons, ih]; rfl
theorem reach_11 {o : Own} {t : Nat} {cs : List AV} (h : Dat cs) : reach [⟨o, t, .fix cs⟩] 1000 [0, 0] [] = some [0] := by simp [reach, refsO, refs_dat h, memb]
theorem reach_10 {o : Own} {t : Nat} {cs : List AV} (h : Dat cs) : reach [⟨o, t, .fix cs⟩] 1000 [0] [] = some [0] := by simp [reach, refsO, refs_dat h, memb]
theorem reach_00 {o : Own} {t : Nat} {cs : List AV} (h : Dat cs) : reach [⟨o, t, .fix cs⟩] 100 [0] [] = some [0] := by simp [reach, refsO, refs_dat h, memb]
theorem hand_a {t : Nat} {cs : List AV} (h : Dat cs) (v : DV) : handRest id [⟨.mine, t, .fix cs⟩] [.ptr 0 0, .d v] [] = some ⟨[.ptr 0 0, .d v], [⟨.mine, t, .fix cs⟩], [0], []⟩ := by
  have e : refs.refsL [.ptr 0 0, .d v] = [0] := rfl
  simp only [handRest, e, reach_00 h]
  have e2 : renH (place · [0]) id [⟨.mine, t, .fix cs⟩] = some [⟨.mine, t, .fix cs⟩] := by simp [renH, renO, ren_dat h]
  have e3 : gather [⟨.mine, t, .fix cs⟩] [0] = some [⟨.mine, t, .fix cs⟩] := rfl
  have e4 : ren.renL (place · [0]) [.ptr 0 0, .d v] = some [.ptr 0 0, .d v] := rfl
  simp only [e2, e3, e4, disj]
theorem hand_b {t : Nat} {cs : List AV} (h : Dat cs) (v : DV) : handRest id [⟨.mine, t, .fix cs⟩] [.d v, .ptr 0 0] [] = some ⟨[.d v, .ptr 0 0], [⟨.mine, t, .fix cs⟩], [0], []⟩ := by
  have e : refs.refsL [.d v, .ptr 0 0] = [0] := rfl
  simp only [handRest, e, reach_00 h]
  have e2 : renH (place · [0]) id [⟨.mine, t, .fix cs⟩] = some [⟨.mine, t, .fix cs⟩] := by simp [renH, renO, ren_dat h]
  have e3 : gather [⟨.mine, t, .fix cs⟩] [0] = some [⟨.mine, t, .fix cs⟩] := rfl
  have e4 : ren.renL (place · [0]) [.d v, .ptr 0 0] = some [.d v, .ptr 0 0] := rfl
  simp only [e2, e3, e4, disj]
theorem renH_dat {o : Own} {t : Nat} {cs : List AV} (h : Dat cs) (m : Nat → Option Nat) : renH m id [⟨o, t, .fix cs⟩] = some [⟨o, t, .fix cs⟩] := by simp [renH, renO, ren_dat h]
theorem scut_x {l : List UInt8} {a b : Int} (h1 : 0 ≤ a) (h2 : a ≤ b) (h3 : b ≤ l.length) : ∃ r : List UInt8, icut l a b = some r ∧ (r.length : Int) = b - a :=
  ⟨(l.take b.toNat).drop a.toNat, icut_t h1 h2 h3, by simp; omega⟩
theorem vq_i {α : Type} {o : Option α} {x : α} {k : α → Prop} (h : o = some x) (e : k x) : vq o k := by subst h; exact e
theorem and3 {a b c : Bool} (h1 : a = true) (h2 : b = true) (h3 : c = true) : (a && b && c) = true := by rw [h1, h2, h3]; rfl
def mtw (b : Bool) (X : Prop) : Prop := match b with
  | true => X
  | false => False
theorem mt_i {b : Bool} {X : Prop} (h : b = true) (e : X) : mtw b X := by subst h; exact e
theorem k_eq {α : Type} {k : α → Prop} {h h' : α} (e : h = h') (x : k h') : k h := by subst e; exact x
theorem splice_all {L cs : List AV} (h : L.length = cs.length) : splice L 0 cs = cs := by
  unfold splice; rw [List.take_zero, List.nil_append, Nat.zero_add, List.drop_eq_nil_of_le (by omega), List.append_nil]
def isCut (n : Nat) : Bool := Nat.beq n 43 || Nat.beq n 45 || Nat.beq n 46 || Nat.beq n 48
def cutSet : List AV := (List.range 256).map fun n => B (isCut n)
/-- The set of what is trimmed, as a list that is not opened. -/
structure IsSet (cs : List AV) : Prop where
  dat : Dat cs
  get : ∀ n, n < 256 → cs[n]? = some (B (isCut n))
  len : cs.length = 256
theorem isSet : IsSet cutSet := ⟨⟨(List.range 256).map fun n => .bool (isCut n), by unfold cutSet; rw [List.map_map]; rfl⟩, fun n h => by unfold cutSet; rw [List.getElem?_map, List.getElem?_range h]; rfl, by unfold cutSet; simp⟩
theorem makeSet_ok : ∃ cs, IsSet cs ∧ Pur F0 188 [S [43, 45, 46, 48]] [] .no (.ret (.tup [.agg cs, B true])) .no :=
  ⟨cutSet, isSet, pur_closed (n := 10) (by kernel_rfl)⟩
theorem contains_ok (c : UInt8) (t : Nat) {cs : List AV} (hs : IsSet cs) : Drp F0 1 208 [.ptr 0 0, .d (.int .u8 c.toNat)] [⟨.mine, t, .fix cs⟩] .no (.ret (B (isCut c.toNat))) [⟨.mine, t, .fix cs⟩] .no := by
  have h1 := c.toNat_lt
  have hr : (ile 0 (c.toNat : Int) && ilt (c.toNat : Int) (256 : Nat)) = true := by rw [Bool.and_eq_true, ile_t, ilt_t]; omega
  refine drp_code (cf := cfn Tryz.f208) (by kernel_rfl) ?_
  conv => arg 3; reduce
  conv => whnf
  repeat' ((first | refine vb_t rfl ?_ | refine vb_f rfl ?_ | refine vb_t (by assumption) ?_ | refine vb_f (by assumption) ?_ | refine vor_l ?_ | fail) <;> conv => whnf)
  have hg : part cs (0 + ((c.toNat : Nat) : Int).toNat * 1) none = some (B (isCut c.toNat)) := by
    show cs[0 + ((c.toNat : Nat) : Int).toNat * 1]? = _
    rw [Nat.zero_add, Nat.mul_one, Int.toNat_natCast]
    exact hs.get _ h1
  rw [hg]
  conv => whnf
  refine vDOL_dat hs.dat ?_
  conv => whnf
  exact ⟨rfl, rfl, rfl⟩
def trimQ (P : List UInt8 → Prop) (t : Nat) (cs : List AV) (c : CR) (g : Heap) (rc : Rec) : Prop := ∃ x, c = .ret (S x) ∧ g = [⟨.mine, t, .fix cs⟩] ∧ rc = .no ∧ P x
/-- What is left, of what is cut off ahead, and behind. -/
def leftCut (s x : List UInt8) : Prop := x.length ≤ s.length ∧ ∃ w, s = w ++ x ∧ (∀ c ∈ w, isCut c.toNat = true) ∧ (∀ c t, x = c :: t → isCut c.toNat = false)
def rightCut (s x : List UInt8) : Prop := x.length ≤ s.length ∧ ∃ w, s = x ++ w ∧ (∀ c ∈ w, isCut c.toNat = true)
theorem scutL {c : UInt8} {t : List UInt8} : icut (c :: t) (Int.ofNat 1) ((c :: t).length : Int) = some t := by
  rw [icut_t (by decide) (by rw [List.length_cons]; show (1 : Int) ≤ _; omega) (Int.le_refl _)]
  congr 1
  show List.drop 1 (List.take (((c :: t).length : Int)).toNat (c :: t)) = t
  rw [Int.toNat_natCast, List.take_length]; rfl
theorem scutR {y : List UInt8} {c : UInt8} {b : Int} (hb : b = y.length) : icut (y ++ [c]) 0 b = some y := by
  subst hb
  rw [icut_t (by omega) (by omega) (by simp; omega)]
  simp
theorem trimLeft_ok (s : List UInt8) (hl : s.length ≤ 100000) (t : Nat) {cs : List AV} (hs : IsSet cs) : ∃ x, Drp F0 1 189 [S s, .ptr 0 0] [⟨.mine, t, .fix cs⟩] .no (.ret (S x)) [⟨.mine, t, .fix cs⟩] .no ∧ leftCut s x := by
  suffices h : ∃ c g rc', Drp F0 1 189 [S s, .ptr 0 0] [⟨.mine, t, .fix cs⟩] .no c g rc' ∧ trimQ (leftCut s) t cs c g rc' by
    obtain ⟨c, g, rc', h1, x, rfl, rfl, rfl, h2⟩ := h
    exact ⟨x, h1, h2⟩
  refine drp_some (cf := cfn Tryz.f189) (by kernel_rfl) ?_
  conv => arg 3; reduce
  conv => whnf
  refine vq_i (x := [0]) (reach_11 hs.dat) ?_
  conv => whnf
  refine vRens_dat hs.dat ?_
  conv => whnf
  refine vloop_by (σ := { x : List UInt8 // x.length ≤ s.length ∧ ∃ w, s = w ++ x ∧ (∀ c ∈ w, isCut c.toNat = true) }) (fun x => [(0, S x.1), (1, .ptr 0 0), (4, S [])]) (fun _ => [⟨.mine, t, .fix cs⟩]) (fun x => x.1.length) ?_ ⟨s, Nat.le_refl _, [], rfl, fun c h => by cases h⟩
  rintro ⟨x, hx, w, hw, hwc⟩
  conv => whnf
  cases x with
  | nil =>
    have q0 : ilt (Int.ofNat 0) (([] : List UInt8).length : Int) = false := by rw [ilt_f]; decide
    repeat' ((first | refine vb_t rfl ?_ | refine vb_f rfl ?_ | refine vb_t (by assumption) ?_ | refine vb_f (by assumption) ?_ | refine vq_i (hand_a hs.dat _) ?_ | refine vq_i (hand_b hs.dat _) ?_ | refine vq_i (renH_dat hs.dat _) ?_ | refine vRens_dat hs.dat ?_ | refine vDOL_dat hs.dat ?_ | refine vq_i (x := [0]) (reach_11 hs.dat) ?_ | refine vq_i (x := [0]) (reach_10 hs.dat) ?_ | refine vq_i (x := [0]) (reach_00 hs.dat) ?_ | refine vor_l ?_ | fail) <;> conv => whnf)
    exact ⟨[], rfl, rfl, rfl, Nat.zero_le _, w, hw, hwc, fun c t h => by cases h⟩
  | cons c x =>
    have q0 : ilt (Int.ofNat 0) ((c :: x).length : Int) = true := by rw [ilt_t, ofn, List.length_cons]; omega
    have hc : iget (c :: x) (Int.ofNat 0) = some c := iget_t (n := 0) rfl
    repeat' ((first | refine vb_t rfl ?_ | refine vb_f rfl ?_ | refine vb_t (by assumption) ?_ | refine vb_f (by assumption) ?_ | refine vo_i hc ?_ | refine vdrp_i (contains_ok c t hs) ?_ | refine vq_i (hand_a hs.dat _) ?_ | refine vq_i (hand_b hs.dat _) ?_ | refine vq_i (renH_dat hs.dat _) ?_ | refine vRens_dat hs.dat ?_ | refine vDOL_dat hs.dat ?_ | refine vq_i (x := [0]) (reach_11 hs.dat) ?_ | refine vq_i (x := [0]) (reach_10 hs.dat) ?_ | refine vq_i (x := [0]) (reach_00 hs.dat) ?_ | refine vor_l ?_ | fail) <;> conv => whnf)
    cases hcc : isCut c.toNat with
    | true =>
      repeat' ((first | refine vb_t rfl ?_ | refine vb_f rfl ?_ | refine vb_t (by assumption) ?_ | refine vb_f (by assumption) ?_ | refine vo_i scutL ?_ | refine vq_i (hand_a hs.dat _) ?_ | refine vq_i (hand_b hs.dat _) ?_ | refine vq_i (renH_dat hs.dat _) ?_ | refine vRens_dat hs.dat ?_ | refine vDOL_dat hs.dat ?_ | refine vq_i (x := [0]) (reach_11 hs.dat) ?_ | refine vq_i (x := [0]) (reach_10 hs.dat) ?_ | refine vq_i (x := [0]) (reach_00 hs.dat) ?_ | refine vor_l ?_ | fail) <;> conv => whnf)
      exact ⟨⟨x, by simp only [List.length_cons] at hx; omega, w ++ [c], by rw [hw]; simp, fun d hd => by
        rcases List.mem_append.1 hd with hd | hd
        · exact hwc d hd
        · rw [List.mem_singleton.1 hd]; exact hcc⟩, by simp only [List.length_cons]; omega, rfl, rfl, rfl, rfl⟩
    | false =>
      repeat' ((first | refine vb_t rfl ?_ | refine vb_f rfl ?_ | refine vb_t (by assumption) ?_ | refine vb_f (by assumption) ?_ | refine vq_i (hand_a hs.dat _) ?_ | refine vq_i (hand_b hs.dat _) ?_ | refine vq_i (renH_dat hs.dat _) ?_ | refine vRens_dat hs.dat ?_ | refine vDOL_dat hs.dat ?_ | refine vq_i (x := [0]) (reach_11 hs.dat) ?_ | refine vq_i (x := [0]) (reach_10 hs.dat) ?_ | refine vq_i (x := [0]) (reach_00 hs.dat) ?_ | refine vor_l ?_ | fail) <;> conv => whnf)
      exact ⟨c :: x, rfl, rfl, rfl, hx, w, hw, hwc, fun d e h => by cases h; exact hcc⟩
theorem trimRight_ok (s : List UInt8) (hl : s.length ≤ 100000) (t : Nat) {cs : List AV} (hs : IsSet cs) : ∃ x, Drp F0 1 190 [S s, .ptr 0 0] [⟨.mine, t, .fix cs⟩] .no (.ret (S x)) [⟨.mine, t, .fix cs⟩] .no ∧ rightCut s x := by
  suffices h : ∃ c g rc', Drp F0 1 190 [S s, .ptr 0 0] [⟨.mine, t, .fix cs⟩] .no c g rc' ∧ trimQ (rightCut s) t cs c g rc' by
    obtain ⟨c, g, rc', h1, x, rfl, rfl, rfl, h2⟩ := h
    exact ⟨x, h1, h2⟩
  refine drp_some (cf := cfn Tryz.f190) (by kernel_rfl) ?_
  conv => arg 3; reduce
  conv => whnf
  refine vq_i (x := [0]) (reach_11 hs.dat) ?_
  conv => whnf
  refine vRens_dat hs.dat ?_
  conv => whnf
  refine vloop_by (σ := { x : List UInt8 // x.length ≤ s.length ∧ ∃ w, s = x ++ w ∧ (∀ c ∈ w, isCut c.toNat = true) }) (fun x => [(0, S x.1), (1, .ptr 0 0), (4, S [])]) (fun _ => [⟨.mine, t, .fix cs⟩]) (fun x => x.1.length) ?_ ⟨s, Nat.le_refl _, [], (List.append_nil s).symm, fun c h => by cases h⟩
  rintro ⟨x, hx, w, hw, hwc⟩
  conv => whnf
  have hxc : x = [] ∨ ∃ y c, x = y ++ [c] := by
    rcases List.eq_nil_or_concat x with h | ⟨y, c, h⟩
    · exact .inl h
    · exact .inr ⟨y, c, by rw [h, List.concat_eq_append]⟩
  rcases hxc with rfl | ⟨y, c, rfl⟩
  · have q0 : ilt (Int.ofNat 0) (([] : List UInt8).length : Int) = false := by rw [ilt_f]; decide
    repeat' ((first | refine vb_t rfl ?_ | refine vb_f rfl ?_ | refine vb_t (by assumption) ?_ | refine vb_f (by assumption) ?_ | refine vq_i (hand_a hs.dat _) ?_ | refine vq_i (hand_b hs.dat _) ?_ | refine vq_i (renH_dat hs.dat _) ?_ | refine vRens_dat hs.dat ?_ | refine vDOL_dat hs.dat ?_ | refine vq_i (x := [0]) (reach_11 hs.dat) ?_ | refine vq_i (x := [0]) (reach_10 hs.dat) ?_ | refine vq_i (x := [0]) (reach_00 hs.dat) ?_ | refine vor_l ?_ | fail) <;> conv => whnf)
    exact ⟨[], rfl, rfl, rfl, Nat.zero_le _, w, hw, hwc⟩
  · rw [List.length_append, List.length_singleton] at hx
    have q0 : ilt (Int.ofNat 0) ((y ++ [c]).length : Int) = true := by rw [ilt_t, ofn, List.length_append, List.length_singleton]; omega
    have he : isub .i64 ((y ++ [c]).length : Int) (Int.ofNat 1) = (y.length : Int) := by rw [ofn, List.length_append, List.length_singleton, isub64 (by omega) (by omega)]; omega
    have hc : iget (y ++ [c]) (isub .i64 ((y ++ [c]).length : Int) (Int.ofNat 1)) = some c := by rw [he]; exact iget_t (by simp)
    repeat' ((first | refine vb_t rfl ?_ | refine vb_f rfl ?_ | refine vb_t (by assumption) ?_ | refine vb_f (by assumption) ?_ | refine vo_i hc ?_ | refine vdrp_i (contains_ok c t hs) ?_ | refine vq_i (hand_a hs.dat _) ?_ | refine vq_i (hand_b hs.dat _) ?_ | refine vq_i (renH_dat hs.dat _) ?_ | refine vRens_dat hs.dat ?_ | refine vDOL_dat hs.dat ?_ | refine vq_i (x := [0]) (reach_11 hs.dat) ?_ | refine vq_i (x := [0]) (reach_10 hs.dat) ?_ | refine vq_i (x := [0]) (reach_00 hs.dat) ?_ | refine vor_l ?_ | fail) <;> conv => whnf)
    cases hcc : isCut c.toNat with
    | true =>
      repeat' ((first | refine vb_t rfl ?_ | refine vb_f rfl ?_ | refine vb_t (by assumption) ?_ | refine vb_f (by assumption) ?_ | refine vo_i (scutR he) ?_ | refine vq_i (hand_a hs.dat _) ?_ | refine vq_i (hand_b hs.dat _) ?_ | refine vq_i (renH_dat hs.dat _) ?_ | refine vRens_dat hs.dat ?_ | refine vDOL_dat hs.dat ?_ | refine vq_i (x := [0]) (reach_11 hs.dat) ?_ | refine vq_i (x := [0]) (reach_10 hs.dat) ?_ | refine vq_i (x := [0]) (reach_00 hs.dat) ?_ | refine vor_l ?_ | fail) <;> conv => whnf)
      exact ⟨⟨y, by omega, c :: w, by rw [hw]; simp, fun d hd => by
        rcases List.mem_cons.1 hd with hd | hd
        · rw [hd]; exact hcc
        · exact hwc d hd⟩, by simp only [List.length_append, List.length_singleton]; omega, rfl, rfl, rfl, rfl⟩
    | false =>
      repeat' ((first | refine vb_t rfl ?_ | refine vb_f rfl ?_ | refine vb_t (by assumption) ?_ | refine vb_f (by assumption) ?_ | refine vq_i (hand_a hs.dat _) ?_ | refine vq_i (hand_b hs.dat _) ?_ | refine vq_i (renH_dat hs.dat _) ?_ | refine vRens_dat hs.dat ?_ | refine vDOL_dat hs.dat ?_ | refine vq_i (x := [0]) (reach_11 hs.dat) ?_ | refine vq_i (x := [0]) (reach_10 hs.dat) ?_ | refine vq_i (x := [0]) (reach_00 hs.dat) ?_ | refine vor_l ?_ | fail) <;> conv => whnf)
      exact ⟨y ++ [c], rfl, rfl, rfl, by rw [List.length_append, List.length_singleton]; exact hx, w, hw, hwc⟩
theorem trim_ok (s : List UInt8) (hl : s.length ≤ 100000) : ∃ x, Pur F0 159 [S s, S [43, 45, 46, 48]] [] .no (.ret (S x)) .no ∧ (x = [] ↔ ∀ c ∈ s, isCut c.toNat = true) := by
  refine pur_ret (σ := List UInt8) (g := S) (Q := fun x => x = [] ↔ ∀ c ∈ s, isCut c.toNat = true) (cf := cfn Tryz.f159) (by kernel_rfl) ?_
  conv => arg 3; reduce
  conv => whnf
  by_cases h0 : s = []
  · have q : seq s [] = true := by rw [seq_t]; exact h0
    repeat' ((first | refine vb_t rfl ?_ | refine vb_f rfl ?_ | refine vb_t (by assumption) ?_ | refine vb_f (by assumption) ?_ | refine vor_l ?_ | fail) <;> conv => whnf)
    exact ⟨_, rfl, rfl, by rw [h0]; exact ⟨fun _ c hc => (by cases hc), fun _ => rfl⟩⟩
  · have q : seq s [] = false := by rw [seq_f]; exact h0
    obtain ⟨cs, hs, hm⟩ := makeSet_ok
    obtain ⟨x, hx, hxl, w1, e1, c1⟩ := trimRight_ok s hl 206 hs
    obtain ⟨y, hy, _, w2, e2, c2, n2⟩ := trimLeft_ok x (by omega) 206 hs
    repeat' ((first | refine vb_t rfl ?_ | refine vb_f rfl ?_ | refine vb_t (by assumption) ?_ | refine vb_f (by assumption) ?_ | refine vb_f (by rw [ieq_f]; decide) ?_ | refine vb_f (by rw [seq_f]; decide) ?_ | refine vpur_i hm ?_ | refine vor_l ?_ | fail) <;> conv => whnf)
    refine mt_i ?_ (k_eq (h' := OR.v (.tup []) [⟨.mine, 206, .fix cs⟩]) ?_ ?_)
    · have e1 : Nat.beq cs.length 256 = true := by rw [hs.len]; rfl
      exact and3 e1 rfl (all_dat hs.dat)
    · refine congrArg (OR.v (.tup [])) (cons_eq (fix_eq ?_) rfl)
      exact splice_all (cs := cs) (by rw [hs.len]; rfl)
    conv => whnf
    repeat' ((first | refine vb_t rfl ?_ | refine vb_f rfl ?_ | refine vb_t (by assumption) ?_ | refine vb_f (by assumption) ?_ | refine vdrp_i hx ?_ | refine vdrp_i hy ?_ | refine vq_i (hand_a hs.dat _) ?_ | refine vq_i (hand_b hs.dat _) ?_ | refine vq_i (renH_dat hs.dat _) ?_ | refine vRens_dat hs.dat ?_ | refine vDOL_dat hs.dat ?_ | refine vq_i (x := [0]) (reach_11 hs.dat) ?_ | refine vq_i (x := [0]) (reach_10 hs.dat) ?_ | refine vq_i (x := [0]) (reach_00 hs.dat) ?_ | refine vor_l ?_ | fail) <;> conv => whnf)
    refine ⟨_, rfl, rfl, fun hy0 c hm => ?_, fun h => ?_⟩
    · rw [e1, e2, hy0, List.append_nil] at hm
      rcases List.mem_append.1 hm with hm | hm
      · exact c2 c hm
      · exact c1 c hm
    · cases y with
      | nil => rfl
      | cons d t =>
        have h1 := h d (by rw [e1, e2]; simp)
        rw [n2 d t rfl] at h1
        cases h1
theorem indexByteString_ok (s : List UInt8) (c : UInt8) (h : Heap) : Pur F0 207 [S s, .d (.int .u8 c.toNat)] h .no (.ret (I (Lib.indexByte s c))) .no := by
  have e : Lib.indexByte s c = Lib.indexByte s (UInt8.ofNat ((c.toNat : Nat) : Int).toNat) := by rw [Int.toNat_natCast, UInt8.ofNat_toNat]
  rw [e]
  exact pur_known (g := kIndexByte) (by kernel_rfl) rfl
theorem indexByte_ok (s : List UInt8) (c : UInt8) : Pur F0 184 [S s, .d (.int .u8 c.toNat)] [] .no (.ret (I (Lib.indexByte s c))) .no := by
  refine pur_code (cf := cfn Tryz.f184) (by kernel_rfl) ?_
  conv => arg 3; reduce
  conv => whnf
  repeat' ((first | refine vb_t rfl ?_ | refine vb_f rfl ?_ | refine vb_t (by assumption) ?_ | refine vb_f (by assumption) ?_ | refine vpur_i (indexByteString_ok s c _) ?_ | refine vor_l ?_ | fail) <;> conv => whnf)
  exact ⟨rfl, rfl⟩
theorem indexByte_lt (s : List UInt8) (c : UInt8) : Lib.indexByte s c < s.length := by
  induction s with
  | nil => show (-1 : Int) < 0; decide
  | cons b l ih =>
    unfold Lib.indexByte
    simp only [List.length_cons]
    split
    · omega
    · split <;> omega
theorem index_ok (s : List UInt8) (c : UInt8) : ∃ i : Int, Pur F0 172 [S s, S [c]] [] .no (.ret (I i)) .no ∧ i = Lib.indexByte s c := by
  refine pur_ret (σ := Int) (g := I) (Q := fun i => i = Lib.indexByte s c) (cf := cfn Tryz.f172) (by kernel_rfl) ?_
  conv => arg 3; reduce
  conv => whnf
  have z0 : ieq (([c] : List UInt8).length : Int) (Int.ofNat 0) = false := by rw [ieq_f]; exact (by decide : (1 : Int) ≠ 0)
  have z1 : ieq (([c] : List UInt8).length : Int) (Int.ofNat 1) = true := by rw [ieq_t]; rfl
  have hc : iget [c] (Int.ofNat 0) = some c := iget_t (n := 0) rfl
  repeat' ((first | refine vb_t rfl ?_ | refine vb_f rfl ?_ | refine vb_t (by assumption) ?_ | refine vb_f (by assumption) ?_ | refine vo_i hc ?_ | refine vpur_i (indexByte_ok s c) ?_ | refine vor_l ?_ | fail) <;> conv => whnf)
  all_goals first
    | exact ⟨_, rfl, rfl, rfl⟩
    | skip
  refine vb_i (fun h => ?_) (fun h => ?_) <;> conv => whnf
  · rw [seq_t] at h
    repeat' ((first | refine vb_t rfl ?_ | refine vb_f rfl ?_ | refine vb_t (by assumption) ?_ | refine vb_f (by assumption) ?_ | refine vor_l ?_ | fail) <;> conv => whnf)
    exact ⟨0, rfl, rfl, by rw [← h]; simp [Lib.indexByte]⟩
  · repeat' ((first | refine vb_t rfl ?_ | refine vb_f rfl ?_ | refine vb_t (by assumption) ?_ | refine vb_f (by assumption) ?_ | refine vo_i hc ?_ | refine vpur_i (indexByte_ok s c) ?_ | refine vor_l ?_ | fail) <;> conv => whnf)
    exact ⟨_, rfl, rfl, rfl⟩
theorem indexByte_tw : ∀ s : List UInt8, (Lib.indexByte s 101 < 0 → s.takeWhile (· != 101) = s) ∧ (0 ≤ Lib.indexByte s 101 → s.takeWhile (· != 101) = s.take (Lib.indexByte s 101).toNat)
  | [] => ⟨fun _ => rfl, fun _ => rfl⟩
  | b :: l => by
    obtain ⟨h1, h2⟩ := indexByte_tw l
    have h3 := Lib.indexByte_ge l 101
    unfold Lib.indexByte
    by_cases hb : b = 101
    · subst hb
      rw [if_pos (by decide)]
      exact ⟨fun h => by omega, fun _ => rfl⟩
    · have e : (b == (101 : UInt8)) = false := by simpa using hb
      have e2 : (b != (101 : UInt8)) = true := by simpa using hb
      simp only [e, e2, List.takeWhile_cons, Bool.false_eq_true, if_false, if_true, beq_iff_eq]
      split
      · exact ⟨fun _ => by rw [h1 (by omega)], fun h => by omega⟩
      · refine ⟨fun h => by omega, fun _ => ?_⟩
        rw [h2 (by omega)]
        have : (Lib.indexByte l 101 + 1).toNat = (Lib.indexByte l 101).toNat + 1 := by omega
        rw [this, List.take_succ_cons]
theorem cut1_ok (s : List UInt8) (hs : s.length ≤ 100000) : ∃ x : List UInt8 × List UInt8 × Bool, Pur F0 185 [S s, S [101]] [] .no (.ret (.tup [S x.1, S x.2.1, B x.2.2])) .no ∧ x.1 = s.takeWhile (· != 101) := by
  refine pur_ret (σ := List UInt8 × List UInt8 × Bool) (g := fun x => .tup [S x.1, S x.2.1, B x.2.2]) (Q := fun x => x.1 = s.takeWhile (· != 101)) (cf := cfn Tryz.f185) (by kernel_rfl) ?_
  conv => arg 3; reduce
  conv => whnf
  obtain ⟨i, hi, hb⟩ := index_ok s 101
  have h1 := Lib.indexByte_ge s 101
  have h2 := indexByte_lt s 101
  obtain ⟨h3, h4⟩ := indexByte_tw s
  rw [← hb] at h1 h2 h3 h4
  repeat' ((first | refine vb_t rfl ?_ | refine vb_f rfl ?_ | refine vb_t (by assumption) ?_ | refine vb_f (by assumption) ?_ | refine vpur_i hi ?_ | refine vor_l ?_ | fail) <;> conv => whnf)
  refine vb_i (fun h => ?_) (fun h => ?_) <;> conv => whnf
  · have h0 : 0 ≤ i := by simp only [ile_t, ofn] at h; omega
    have he : iadd .i64 i (([101] : List UInt8).length : Int) = i + 1 := by
      show iadd .i64 i 1 = i + 1
      rw [iadd64] <;> omega
    have hr1 : icut s 0 i = some (s.take i.toNat) := by rw [icut_t (by omega) (by omega) (by omega)]; rfl
    obtain ⟨r2, hr2, hl2⟩ := scut_x (l := s) (a := iadd .i64 i (([101] : List UInt8).length : Int)) (b := (s.length : Int)) (by rw [he]; omega) (by rw [he]; omega) (by omega)
    repeat' ((first | refine vb_t rfl ?_ | refine vb_f rfl ?_ | refine vb_t (by assumption) ?_ | refine vb_f (by assumption) ?_ | refine vo_i hr1 ?_ | refine vo_i hr2 ?_ | refine vor_l ?_ | fail) <;> conv => whnf)
    exact ⟨(s.take i.toNat, r2, true), rfl, rfl, (h4 h0).symm⟩
  · have h0 : i < 0 := by simp only [ile_f, ofn] at h; omega
    repeat' ((first | refine vb_t rfl ?_ | refine vb_f rfl ?_ | refine vb_t (by assumption) ?_ | refine vb_f (by assumption) ?_ | refine vor_l ?_ | fail) <;> conv => whnf)
    exact ⟨(s, [], false), rfl, rfl, (h3 h0).symm⟩
theorem cut_ok (s : List UInt8) (hs : s.length ≤ 100000) : ∃ x : List UInt8 × List UInt8 × Bool, Pur F0 158 [S s, S [101]] [] .no (.ret (.tup [S x.1, S x.2.1, B x.2.2])) .no ∧ x.1 = s.takeWhile (· != 101) := by
  refine pur_ret (σ := List UInt8 × List UInt8 × Bool) (g := fun x => .tup [S x.1, S x.2.1, B x.2.2]) (Q := fun x => x.1 = s.takeWhile (· != 101)) (cf := cfn Tryz.f158) (by kernel_rfl) ?_
  conv => arg 3; reduce
  conv => whnf
  obtain ⟨x, hx, hb⟩ := cut1_ok s hs
  repeat' ((first | refine vb_t rfl ?_ | refine vb_f rfl ?_ | refine vb_t (by assumption) ?_ | refine vb_f (by assumption) ?_ | refine vpur_i hx ?_ | refine vor_l ?_ | fail) <;> conv => whnf)
  exact ⟨x, rfl, rfl, hb⟩
end Go.Proofs.YtjeblkicgmmhiaaGreatDoor.Ab
namespace Go.Proofs.YtjeblkicgmmhiaaGreatDoor.Ab
open Go
set_option linter.unusedSimpArgs false
set_option maxRecDepth 100000
set_option linter.unusedVariables false
def low (c : UInt8) : UInt8 := if 65 ≤ c.toNat ∧ c.toNat ≤ 90 then c + 32 else c
def lowTo (s : List UInt8) (i : Nat) : List UInt8 := (s.take i).map low ++ s.drop i
def lower (s : List UInt8) : List UInt8 := s.map low
theorem lowTo_get {s : List UInt8} {i : Nat} {c : UInt8} (h : s[i]? = some c) : (lowTo s i)[i]? = some c := by
  have hl := (List.getElem?_eq_some_iff.1 h).1
  unfold lowTo
  rw [List.getElem?_append_right (by simp; omega)]
  simp [Nat.min_eq_left (Nat.le_of_lt hl), h]
theorem lowTo_succ {s : List UInt8} {i : Nat} {c : UInt8} (h : s[i]? = some c) : (lowTo s i).set i (low c) = lowTo s (i + 1) := by
  have hl := (List.getElem?_eq_some_iff.1 h).1
  have hc := (List.getElem?_eq_some_iff.1 h).2
  unfold lowTo
  rw [List.set_append_right _ _ (by simp; omega), List.take_succ_eq_append_getElem hl, List.drop_eq_getElem_cons hl, hc]
  simp [Nat.min_eq_left (Nat.le_of_lt hl)]
theorem lowTo_id {s : List UInt8} {i : Nat} {c : UInt8} (h : s[i]? = some c) (hc : low c = c) : lowTo s i = lowTo s (i + 1) := by
  rw [← lowTo_succ h, hc]
  obtain ⟨h1, h2⟩ := List.getElem?_eq_some_iff.1 (lowTo_get h)
  rw [← h2, List.set_getElem_self]
theorem iadd_u8 {c : UInt8} (h : c.toNat ≤ 200) : iadd .u8 (c.toNat : Int) (Int.ofNat 32) = ((c + 32).toNat : Int) := by
  have e : (c + 32).toNat = c.toNat + 32 := by rw [UInt8.toNat_add]; simp; omega
  unfold iadd
  rw [e]
  simp only [Int.ofNat_eq_natCast, IntKind.wrap, IntKind.signed, IntKind.bits, Bool.false_and, Bool.false_eq_true, if_false]
  omega
theorem lower_ok (s : List UInt8) (hs : s.length ≤ 140737488355328) : Pur F0 128 [S s] [] .no (.ret (S (lower s))) .no := by
  refine pur_code (cf := cfn Tryz.f128) (by kernel_rfl) ?_
  conv => arg 3; reduce
  conv => whnf
  refine vloop_by (σ := { i : Nat // i ≤ s.length }) (fun i => [(2, S []), (3, .osl 0 0 0 s.length), (8, I (↑s.length - ↑0)), (9, I i.1)]) (fun i => [⟨.mine, _, .arr false 0 1 ((lowTo s i.1).map byteRow)⟩]) (fun i => s.length - i.1) ?_ ⟨0, Nat.zero_le _⟩
  rintro ⟨i, hi⟩
  conv => whnf
  refine vb_i (fun h => ?_) (fun h => ?_)
  · simp only [ilt_t] at h
    have hlt : i < s.length := by omega
    obtain ⟨c, hc⟩ : ∃ c, s[i]? = some c := ⟨s[i], List.getElem?_eq_getElem hlt⟩
    have hr : ((lowTo s i).map byteRow)[i]? = some (byteRow c) := by rw [List.getElem?_map, lowTo_get hc]; rfl
    have hg : iget (((((lowTo s i).map byteRow)).take s.length).drop 0) (i : Int) = some (byteRow c) := iget_sl (by rw [Nat.zero_add]; exact hr) (by omega)
    have hr2 : ((lowTo s i).map byteRow)[0 + (i : Int).toNat]? = some (byteRow c) := by rw [Nat.zero_add, Int.toNat_natCast]; exact hr
    conv => whnf
    repeat' (first
      | (refine vb_t rfl ?_; conv => whnf)
      | (refine vb_f rfl ?_; conv => whnf)
      | (refine vb_t (by assumption) ?_; conv => whnf)
      | (refine vb_f (by assumption) ?_; conv => whnf)
      | (refine vo_i hg ?_; conv => whnf)
      | (refine vo_i hr2 ?_; conv => whnf)
      | (refine vb_i (fun h => ?_) (fun h => ?_) <;> conv => whnf))
    all_goals refine ⟨⟨i + 1, hlt⟩, by simp only; omega, ?_, ?_, rfl, rfl⟩
    all_goals try exact cons_eq rfl (cons_eq rfl (cons_eq rfl (cons_eq (slot_eq (I_eq (iadd_one (i := i) (by omega)))) rfl)))
    all_goals simp only [ile_t, ile_f] at *
    · refine cons_eq (arr_eq ?_) rfl
      rw [Nat.zero_add, Int.toNat_natCast, ← lowTo_succ hc, List.map_set]
      congr 1
      unfold low
      simp only [Int.ofNat_eq_natCast] at *
      rw [if_pos (by omega)]
      show [DV.int IntKind.u8 _] = [DV.int IntKind.u8 _]
      congr 2
      exact iadd_u8 (by omega)
    all_goals refine cons_eq (arr_eq (congrArg (List.map byteRow) (lowTo_id hc ?_))) rfl
    all_goals (unfold low; simp only [Int.ofNat_eq_natCast] at *; rw [if_neg (by omega)])
  · conv => whnf
    repeat' (first
      | (refine vb_t rfl ?_; conv => whnf))
    simp only [ilt_f] at h
    have : i = s.length := by omega
    subst this
    have ht : textOf (List.drop 0 (List.take s.length (List.map byteRow (lowTo s s.length)))) = some (lower s) := by
      rw [List.drop_zero, List.take_of_length_le (by simp [lowTo]), textOf_bytes]
      simp [lowTo, lower]
    refine vo_i ht ?_
    conv => whnf
    exact ⟨rfl, rfl⟩
end Go.Proofs.YtjeblkicgmmhiaaGreatDoor.Ab
namespace Go.Proofs.YtjeblkicgmmhiaaGreatDoor.Ab
open Go
set_option linter.unusedSimpArgs false
set_option maxRecDepth 100000
set_option linter.unusedVariables false
theorem wu {x : Int} : IntKind.wrap .u64 x = x % 18446744073709551616 := by simp [IntKind.wrap, IntKind.signed, IntKind.bits]
theorem u_rem {a b : Nat} : irem (a : Int) (b : Int) = ((a % b : Nat) : Int) := by unfold irem; rfl
theorem iz_u {n : Nat} (h : n ≠ 0) : iz (n : Int) = false := by rw [iz_f]; omega
end Go.Proofs.YtjeblkicgmmhiaaGreatDoor.Ab
namespace Go.Proofs.YtjeblkicgmmhiaaGreatDoor.Ab
open Go
set_option linter.unusedSimpArgs false
set_option maxRecDepth 100000
set_option linter.unusedVariables false
def keyBit (k : Int) : Int := if k = 1 then 4 else if k = 4 then 8 else if k = 5 then 8 else if k = 7 then 32 else 0
theorem keyBit_ok (k : Int) : Pur F0 136 [I k] [] .no (.ret (I (keyBit k))) .no := by
  refine pur_code (cf := cfn Tryz.f136) (by kernel_rfl) ?_
  conv => arg 3; reduce
  conv => whnf
  repeat' ((first | refine vb_t rfl ?_ | refine vb_f rfl ?_ | refine vb_t (by assumption) ?_ | refine vb_f (by assumption) ?_ | refine vor_l ?_ | refine vb_i (fun h => ?_) (fun h => ?_) | fail) <;> conv => whnf)
  all_goals (refine ⟨?_, rfl⟩; simp_all [keyBit, ieq_t, ieq_f])
def keyText (k : Int) : List UInt8 := if k = 1 then [97, 117, 116, 111] else if k = 4 then [109, 105, 110, 45, 99, 111, 110, 116, 101, 110, 116] else if k = 5 then [109, 97, 120, 45, 99, 111, 110, 116, 101, 110, 116] else
  if k = 7 then [110, 111, 110, 101] else []
theorem keyText_ok (k : Int) : Pur F0 160 [I k] [] .no (.ret (S (keyText k))) .no := by
  refine pur_code (cf := cfn Tryz.f160) (by kernel_rfl) ?_
  conv => arg 3; reduce
  conv => whnf
  repeat' ((first | refine vb_t rfl ?_ | refine vb_f rfl ?_ | refine vb_t (by assumption) ?_ | refine vb_f (by assumption) ?_ | refine vor_l ?_ | refine vb_i (fun h => ?_) (fun h => ?_) | fail) <;> conv => whnf)
  all_goals (refine ⟨?_, rfl⟩; simp_all [keyText, ieq_t, ieq_f])
/-- Has allow a bit? -/
def hasBit (a b : Int) : Bool := ilt 0 (iand .i64 a b)
def within (n a most : Int) : Bool := if n < 0 then (if hasBit a 2 = true then ile (isub .i64 0 most) n else false) else ile n most
theorem good1_ok (k n a most : Int) (t u : Nat) : Drp F0 2 135 [I most, .ptr 0 0, .ptr 1 0] [⟨.mine, t, .fix [I k, I n]⟩, ⟨.mine, u, .fix [I a]⟩] .no (.ret (B (within n a most)))
    [⟨.mine, t, .fix [I k, I n]⟩, ⟨.mine, u, .fix [I a]⟩] .no := by
  refine drp_code (cf := cfn Tryz.f135) (by kernel_rfl) ?_
  conv => arg 3; reduce
  conv => whnf
  repeat' ((first | refine vb_t rfl ?_ | refine vb_f rfl ?_ | refine vb_t (by assumption) ?_ | refine vb_f (by assumption) ?_ | refine vor_l ?_ | refine vb_i (fun h => ?_) (fun h => ?_) | fail) <;> conv => whnf)
  all_goals (refine ⟨?_, rfl, rfl⟩; simp_all [within, hasBit, ilt_d, ile_d] <;> omega)
/-- May a size be? -/
def goodL (k n a : Int) : Bool :=
  if k = 2 then within n a 68719476736 else if k = 3 then (hasBit a 1 && within n a 1073741824) else if k = 6 then (hasBit a 16 && decide (0 ≤ n) && decide (n ≤ 1073741824)) else decide (n = 0) && hasBit a (keyBit k)
theorem good_ok (k n a : Int) : Pur F0 93 [.agg [I k, I n], I a] [] .no (.ret (B (goodL k n a))) .no := by
  refine pur_code (cf := cfn Tryz.f93) (by kernel_rfl) ?_
  conv => arg 3; reduce
  conv => whnf
  repeat' ((first | refine vb_t rfl ?_ | refine vb_f rfl ?_ | refine vb_t (by assumption) ?_ | refine vb_f (by assumption) ?_ | refine vdrp_i (good1_ok _ _ _ _ _ _) ?_ | refine vpur_i (keyBit_ok _) ?_ | refine vor_l ?_ | refine vb_i (fun h => ?_) (fun h => ?_) | fail) <;> conv => whnf)
  all_goals (refine ⟨?_, rfl⟩; simp_all [goodL, hasBit, ieq_d, ilt_d, ile_d] <;> omega)
end Go.Proofs.YtjeblkicgmmhiaaGreatDoor.Ab
namespace Go.Proofs.YtjeblkicgmmhiaaGreatDoor.Ab
open Go
set_option linter.unusedSimpArgs false
set_option maxRecDepth 100000
set_option linter.unusedVariables false
set_option maxHeartbeats 4000000
theorem g_ofn (n : Nat) : Int.ofNat n = ((n : Nat) : Int) := rfl
theorem g_in {x : Int} (h1 : -9223372036854775808 ≤ x) (h2 : x ≤ 9223372036854775807) : IntKind.wrap .i64 x = x := IntWalk.i64_in _ ⟨h1, h2⟩
theorem g_quo {a b : Nat} (ha : a ≤ 4611686018427387904) : iquo .i64 (a : Int) (b : Int) = ((a / b : Nat) : Int) := by
  unfold iquo
  have e : ((a : Int).tdiv (b : Int)) = ((a / b : Nat) : Int) := rfl
  have := Nat.div_le_self a b
  rw [e]
  generalize a / b = q at *
  rw [g_in (by omega) (by omega)]
theorem iandp (a : Int) (b : Nat) (hb : b < 64) : 0 < iand .i64 a b ↔ ((a % 18446744073709551616).toNat &&& b) ≠ 0 := by
  have hA : (BitVec.ofInt 64 a).toNat = (a % 18446744073709551616).toNat := by rw [BitVec.toNat_ofInt]; rfl
  have hB : (BitVec.ofInt 64 (b : Int)).toNat = b := by rw [BitVec.toNat_ofInt]; omega
  have hlt : (a % 18446744073709551616).toNat &&& b ≤ b := Nat.and_le_right
  have hw : iand .i64 a b = (((a % 18446744073709551616).toNat &&& b : Nat) : Int) := by
    unfold iand
    show IntKind.wrap .i64 ((BitVec.ofInt 64 a &&& BitVec.ofInt 64 (b : Int)).toNat : Int) = _
    rw [BitVec.toNat_and, hA, hB]
    generalize (a % 18446744073709551616).toNat &&& b = z at *
    exact IntWalk.i64_in _ ⟨by omega, by omega⟩
  rw [hw]
  omega
theorem and_pow (x k : Nat) : (x &&& 2 ^ k) ≠ 0 ↔ x / 2 ^ k % 2 = 1 := by
  have ht : x.testBit k = decide (x / 2 ^ k % 2 = 1) := Nat.testBit_eq_decide_div_mod_eq
  constructor
  · intro h
    refine Classical.byContradiction fun hn => h ?_
    apply Nat.eq_of_testBit_eq
    intro i
    rw [Nat.testBit_and, Nat.testBit_two_pow, Nat.zero_testBit]
    by_cases hi : k = i
    · subst hi; rw [ht, decide_eq_false hn]; rfl
    · simp [hi]
  · intro h e
    have := congrArg (fun y => Nat.testBit y k) e
    simp only [Nat.testBit_and, Nat.testBit_two_pow, Nat.zero_testBit, ht, h] at this
    simp at this
/-- allow's six bits. -/
def six (a : Int) : Nat := (a % 64).toNat
theorem hasB (a : Int) (k : Nat) (hk : k < 6) : hasBit a ((2 ^ k : Nat) : Int) = decide (six a / 2 ^ k % 2 = 1) := by
  unfold hasBit six
  rw [ilt_d]
  have h2 : 2 ^ k < 64 := Nat.pow_lt_pow_right (by decide) hk
  rw [Bool.eq_iff_iff, decide_eq_true_eq, decide_eq_true_eq, iandp a _ h2, and_pow]
  have e : (a % 64).toNat = (a % 18446744073709551616).toNat % 64 := by omega
  rw [e]
  generalize (a % 18446744073709551616).toNat = x
  have : k = 0 ∨ k = 1 ∨ k = 2 ∨ k = 3 ∨ k = 4 ∨ k = 5 := by omega
  rcases this with rfl | rfl | rfl | rfl | rfl | rfl <;> simp only [Nat.reducePow] <;> omega
theorem six_lt (a : Int) : six a < 64 := by unfold six; omega
/-- Has allow a bit: by division. -/
theorem bits_ok (a : Int) : Pur F0 121 [I a] [] .no (.ret (I (six a))) .no := by
  refine pur_code (cf := cfn Tryz.f121) (by kernel_rfl) ?_
  conv => arg 3; reduce
  conv => whnf
  have hz : iz (Int.ofNat 64) = false := by rw [iz_f]; decide
  repeat' ((first | refine vb_t rfl ?_ | refine vb_f rfl ?_ | refine vb_t (by assumption) ?_ | refine vb_f (by assumption) ?_ | refine vor_l ?_ | refine vb_i (fun h => ?_) (fun h => ?_) | fail) <;> conv => whnf)
  refine ⟨congrArg CR.ret (I_eq ?_), rfl⟩
  have h := six_lt a
  have e : irem (icast .u64 a) (Int.ofNat 64) = (six a : Int) := by
    obtain ⟨x, hx⟩ : ∃ x : Nat, icast .u64 a = (x : Int) := ⟨(icast .u64 a).toNat, by unfold icast; rw [wu]; omega⟩
    have hx' := hx
    unfold icast at hx'
    rw [wu] at hx'
    rw [hx, g_ofn, u_rem]
    unfold six
    omega
  rw [e, icast64 (by omega) (by omega)]
theorem has_ok (a b : Nat) (ha : a < 64) (hb : 0 < b) : Pur F0 122 [I a, I b] [] .no (.ret (B (decide (a / b % 2 = 1)))) .no := by
  refine pur_code (cf := cfn Tryz.f122) (by kernel_rfl) ?_
  conv => arg 3; reduce
  conv => whnf
  have hz : iz (b : Int) = false := iz_u (by omega)
  have hz2 : iz (Int.ofNat 2) = false := by rw [iz_f]; decide
  repeat' ((first | refine vb_t rfl ?_ | refine vb_f rfl ?_ | refine vb_t (by assumption) ?_ | refine vb_f (by assumption) ?_ | refine vor_l ?_ | refine vb_i (fun h => ?_) (fun h => ?_) | fail) <;> conv => whnf)
  refine ⟨congrArg CR.ret (congrArg AV.d (congrArg DV.bool ?_)), rfl⟩
  have e : irem (iquo .i64 (a : Int) (b : Int)) (Int.ofNat 2) = ((a / b % 2 : Nat) : Int) := by rw [g_quo (by omega), g_ofn, u_rem]
  rw [e, ieq_d, g_ofn]
  rw [Bool.eq_iff_iff, decide_eq_true_eq, decide_eq_true_eq]
  exact ⟨fun h => Int.ofNat.inj h, fun h => by rw [h]⟩
theorem lit0 : Int.ofNat 0 = 0 := rfl
theorem lit1 : Int.ofNat 1 = 1 := rfl
theorem lit2 : Int.ofNat 2 = 2 := rfl
theorem lit3 : Int.ofNat 3 = 3 := rfl
theorem lit4 : Int.ofNat 4 = 4 := rfl
theorem lit5 : Int.ofNat 5 = 5 := rfl
theorem lit6 : Int.ofNat 6 = 6 := rfl
theorem lit7 : Int.ofNat 7 = 7 := rfl
theorem litA : Int.ofNat 68719476736 = 68719476736 := rfl
theorem litB : Int.ofNat 1073741824 = 1073741824 := rfl
theorem litC : Int.negSucc 68719476735 = -68719476736 := rfl
theorem litD : Int.negSucc 1073741823 = -1073741824 := rfl
theorem sub1 : isub .i64 0 68719476736 = -68719476736 := by rw [isub64] <;> decide
theorem sub2 : isub .i64 0 1073741824 = -1073741824 := by rw [isub64] <;> decide
theorem has0 (a : Int) : hasBit a 0 = false := by
  unfold hasBit
  rw [ilt_f]
  have : ¬ 0 < iand .i64 a ((0 : Nat) : Int) := by rw [iandp a 0 (by decide)]; simp
  exact Int.not_lt.1 this
theorem rgood_ok (k n a : Int) : Pur F0 86 [.agg [I k, I n], I a] [] .no (.ret (B (goodL k n a))) .no := by
  refine pur_code (cf := cfn Tryz.f86) (by kernel_rfl) ?_
  conv => arg 3; reduce
  conv => whnf
  have h := six_lt a
  have b1 : hasBit a 1 = decide (six a / 1 % 2 = 1) := hasB a 0 (by decide)
  have b2 : hasBit a 2 = decide (six a / 2 % 2 = 1) := hasB a 1 (by decide)
  have b4 : hasBit a 4 = decide (six a / 4 % 2 = 1) := hasB a 2 (by decide)
  have b8 : hasBit a 8 = decide (six a / 8 % 2 = 1) := hasB a 3 (by decide)
  have b16 : hasBit a 16 = decide (six a / 16 % 2 = 1) := hasB a 4 (by decide)
  have b32 : hasBit a 32 = decide (six a / 32 % 2 = 1) := hasB a 5 (by decide)
  have c1 : Pur F0 122 [I (six a), I 1] [] .no (.ret (B (hasBit a 1))) .no := by rw [b1]; exact has_ok (six a) 1 h (by decide)
  have c2 : Pur F0 122 [I (six a), I 2] [] .no (.ret (B (hasBit a 2))) .no := by rw [b2]; exact has_ok (six a) 2 h (by decide)
  have c4 : Pur F0 122 [I (six a), I 4] [] .no (.ret (B (hasBit a 4))) .no := by rw [b4]; exact has_ok (six a) 4 h (by decide)
  have c8 : Pur F0 122 [I (six a), I 8] [] .no (.ret (B (hasBit a 8))) .no := by rw [b8]; exact has_ok (six a) 8 h (by decide)
  have c16 : Pur F0 122 [I (six a), I 16] [] .no (.ret (B (hasBit a 16))) .no := by rw [b16]; exact has_ok (six a) 16 h (by decide)
  have c32 : Pur F0 122 [I (six a), I 32] [] .no (.ret (B (hasBit a 32))) .no := by rw [b32]; exact has_ok (six a) 32 h (by decide)
  have bo := bits_ok a
  clear b1 b2 b4 b8 b16 b32
  generalize six a = m at *
  repeat' ((first | refine vb_t rfl ?_ | refine vb_f rfl ?_ | refine vb_t (by assumption) ?_ | refine vb_f (by assumption) ?_ | refine vpur_i bo ?_ | refine vpur_i c1 ?_ | refine vpur_i c2 ?_ | refine vpur_i c4 ?_ | refine vpur_i c8 ?_ | refine vpur_i c16 ?_ | refine vpur_i c32 ?_ | refine vor_l ?_ | refine vb_i (fun h => ?_) (fun h => ?_) | fail) <;> conv => whnf)
  all_goals clear bo c1 c2 c4 c8 c16 c32
  all_goals refine ⟨congrArg CR.ret (congrArg AV.d (congrArg DV.bool ?_)), rfl⟩
  all_goals simp only [ieq_t, ieq_f, ile_t, ile_f, ile_d, ieq_d, ilt_d, lit2, lit3, lit1, lit4, lit5, lit6, lit7, litA, litB, lit0, litC, litD] at *
  all_goals have h0 := has0 a
  all_goals try subst k
  all_goals simp only [goodL, within, keyBit, ile_d, sub1, sub2]
  all_goals (simp_all <;> first | omega | ((repeat' split) <;> (try simp_all) <;> omega))
end Go.Proofs.YtjeblkicgmmhiaaGreatDoor.Ab
namespace Go.Proofs.YtjeblkicgmmhiaaGreatDoor.Ab
open Go
set_option linter.unusedSimpArgs false
set_option maxRecDepth 100000
set_option linter.unusedVariables false
set_option maxHeartbeats 4000000
/-- Digits (0 to 9 each), the first one first, as a number. -/
def valD : List UInt8 → Nat
  | [] => 0
  | c :: l => c.toNat * 10 ^ l.length + valD l
def digsOk (l : List UInt8) : Prop := ∀ c ∈ l, c.toNat ≤ 9
theorem valD_append : ∀ a b : List UInt8, valD (a ++ b) = valD a * 10 ^ b.length + valD b
  | [], b => by simp [valD]
  | c :: a, b => by
    have h := valD_append a b
    simp only [List.cons_append, valD, h, List.length_append, Nat.pow_add, Nat.add_mul]
    rw [Nat.mul_assoc]; omega
theorem valD_lt : ∀ l : List UInt8, digsOk l → valD l < 10 ^ l.length
  | [], _ => by simp [valD]
  | c :: l, h => by
    have h1 := valD_lt l fun x hx => h x (List.mem_cons_of_mem _ hx)
    have h2 := h c (List.mem_cons_self ..)
    simp only [valD, List.length_cons, Nat.pow_succ]
    have h3 : c.toNat * 10 ^ l.length ≤ 9 * 10 ^ l.length := Nat.mul_le_mul_right _ h2
    omega
theorem valD_zeros : ∀ n : Nat, valD (List.replicate n 0) = 0
  | 0 => rfl
  | n + 1 => by rw [List.replicate_succ, valD, valD_zeros n]; simp
theorem digsOk_append {a b : List UInt8} (h : digsOk a) (k : digsOk b) : digsOk (a ++ b) := fun c hc => by
  rcases List.mem_append.1 hc with hc | hc
  · exact h c hc
  · exact k c hc
theorem valD_split (l : List UInt8) (i : Nat) : valD l = valD (l.take i) * 10 ^ (l.length - i) + valD (l.drop i) := by
  have h := valD_append (l.take i) (l.drop i)
  rw [List.take_append_drop, List.length_drop] at h
  exact h
/-- A number times ten to the power of minus behind, rounded half up. -/
def rndN (X : Nat) (behind : Int) : Nat :=
  if behind ≤ 0 then X * 10 ^ (-behind).toNat
  else X / 10 ^ behind.toNat + (if 5 ≤ X / 10 ^ (behind.toNat - 1) % 10 then 1 else 0)
theorem rndN_pos {X r : Nat} (h : 0 < r) : rndN X r = X / 10 ^ r + (if 5 ≤ X / 10 ^ (r - 1) % 10 then 1 else 0) := by
  unfold rndN; rw [if_neg (by omega), Int.toNat_natCast]
theorem rndN_neg {X : Nat} {b : Int} (h : b ≤ 0) : rndN X b = X * 10 ^ (-b).toNat := by unfold rndN; rw [if_pos h]
/-- Whole times the power, and what is left below it. -/
theorem rndN_parts {W m r c d0 : Nat} (hr : 0 < r) (hm : m < 10 ^ r) (hd : m / 10 ^ (r - 1) = d0) (hd9 : d0 ≤ 9) : rndN ((W + c) * 10 ^ r + m) r = W + c + (if 5 ≤ d0 then 1 else 0) := by
  have hp : 0 < 10 ^ r := Nat.pow_pos (by decide)
  have hp1 : 0 < 10 ^ (r - 1) := Nat.pow_pos (by decide)
  have he : 10 ^ r = 10 ^ (r - 1) * 10 := by rw [← Nat.pow_succ]; congr 1; omega
  rw [rndN_pos hr]
  have h1 : ((W + c) * 10 ^ r + m) / 10 ^ r = W + c := by
    rw [Nat.mul_comm, Nat.mul_add_div hp, Nat.div_eq_of_lt hm, Nat.add_zero]
  have h2 : ((W + c) * 10 ^ r + m) / 10 ^ (r - 1) = (W + c) * 10 + d0 := by
    rw [he, ← Nat.mul_assoc, Nat.mul_comm (W + c), Nat.mul_assoc, Nat.mul_add_div hp1, hd]
  rw [h1, h2]
  have h3 : ((W + c) * 10 + d0) % 10 = d0 := by omega
  rw [h3]
theorem rndN_small {X : Nat} {b : Int} (r : Nat) (hb : b = (r : Int)) (hr : 0 < r) (h : X < 10 ^ (r - 1)) : rndN X b = 0 := by
  subst hb
  rw [rndN_pos hr, Nat.div_eq_of_lt h, Nat.div_eq_of_lt (Nat.lt_of_lt_of_le h (Nat.pow_le_pow_right (by decide) (by omega)))]
  rfl
theorem rndN_big {X : Nat} {b : Int} (n k : Nat) (h : 10 ^ k ≤ X) (hb : b + n ≤ (k : Int)) : 10 ^ n ≤ rndN X b := by
  unfold rndN
  split
  · rename_i h0
    have h1 : 10 ^ n ≤ 10 ^ (k + (-b).toNat) := Nat.pow_le_pow_right (by decide) (by omega)
    rw [Nat.pow_add] at h1
    exact Nat.le_trans h1 (Nat.mul_le_mul_right _ h)
  · rename_i h0
    obtain ⟨r, rfl⟩ : ∃ r : Nat, b = r := ⟨b.toNat, by omega⟩
    rw [Int.toNat_natCast]
    have h1 : 10 ^ n ≤ X / 10 ^ r := by
      rw [Nat.le_div_iff_mul_le (Nat.pow_pos (by decide)), ← Nat.pow_add]
      exact Nat.le_trans (Nat.pow_le_pow_right (by decide) (by omega)) h
    omega
theorem valD_first {c : UInt8} {l : List UInt8} (h : c.toNat ≠ 0) : 10 ^ l.length ≤ valD (c :: l) := by
  have : 1 * 10 ^ l.length ≤ c.toNat * 10 ^ l.length := Nat.mul_le_mul_right _ (by omega)
  simp only [valD]; omega
theorem valD_head {l : List UInt8} {c : UInt8} (h : l[0]? = some c) (hd : digsOk l) : valD l / 10 ^ (l.length - 1) = c.toNat := by
  cases l with
  | nil => simp at h
  | cons d l =>
    simp at h; subst h
    have h1 := valD_lt l fun x hx => hd x (List.mem_cons_of_mem _ hx)
    simp only [valD, List.length_cons, Nat.add_sub_cancel]
    rw [Nat.mul_comm, Nat.mul_add_div (Nat.pow_pos (by decide)), Nat.div_eq_of_lt h1, Nat.add_zero]
theorem headD_div {m : List UInt8} (hm : digsOk m) (h : 0 < m.length) : valD m / 10 ^ (m.length - 1) = (m.headD 0).toNat ∧ (m.headD 0).toNat ≤ 9 := by
  cases m with
  | nil => simp at h
  | cons c l => exact ⟨valD_head (c := c) rfl hm, hm c (List.mem_cons_self ..)⟩
/-- What is left, behind the point: r digits m, and so many whole ones more. -/
theorem rnd_rest {V W r sc ca F : Nat} {m : List UInt8} (hm : digsOk m) (hr : m.length = r) (hV : V = W * 10 ^ r + F) (hF : valD m + ca * 10 ^ r = F * sc) :
    rndN (V * sc) (r : Int) = W * sc + ca + (if 5 ≤ (m.headD 0).toNat then 1 else 0) := by
  have hX : V * sc = (W * sc + ca) * 10 ^ r + valD m := by
    rw [hV, Nat.add_mul, ← hF, Nat.add_mul]
    have : W * 10 ^ r * sc = W * sc * 10 ^ r := by rw [Nat.mul_assoc, Nat.mul_comm (10 ^ r), ← Nat.mul_assoc]
    omega
  have hlt := valD_lt m hm
  rw [hr] at hlt
  rcases Nat.eq_zero_or_pos r with h0 | h0
  · subst h0
    have hm0 : m = [] := List.length_eq_zero_iff.1 hr
    subst hm0
    rw [rndN_neg (by omega), hX]
    simp [valD]
  · obtain ⟨h1, h2⟩ := headD_div hm (by omega)
    rw [hr] at h1
    rw [hX]
    exact rndN_parts h0 hlt h1 h2
theorem rnd_fin {e : List UInt8} {n : Int} {sc i Z : Nat} (hi : n.toNat = i) (hZ : (-n).toNat = Z) {m : List UInt8} {ca : Nat} (hm : digsOk m) (hml : m.length = (List.replicate Z 0 ++ e.drop (min e.length i)).length)
    (hv : valD m + ca * 10 ^ m.length = valD (List.replicate Z 0 ++ e.drop (min e.length i)) * sc) :
    rndN (valD e * sc) ((e.length : Int) - n) = (valD (e.take i) * 10 ^ (i - e.length)) * sc + ca + (if 5 ≤ (m.headD 0).toNat then 1 else 0) := by
  have hF : valD (List.replicate Z 0 ++ e.drop (min e.length i)) = valD (e.drop (min e.length i)) := by rw [valD_append, valD_zeros, Nat.zero_mul, Nat.zero_add]
  rw [hF] at hv
  simp only [List.length_append, List.length_replicate, List.length_drop] at hml
  by_cases hbig : e.length < i
  · have h0 : m.length = 0 := by omega
    have hm0 : m = [] := List.length_eq_zero_iff.1 h0
    subst hm0
    rw [Nat.min_eq_left (by omega), List.drop_length] at hv
    simp only [valD, List.length_nil, Nat.pow_zero, Nat.mul_one, Nat.zero_mul, Nat.zero_add] at hv
    subst hv
    rw [rndN_neg (by omega), List.take_of_length_le (by omega)]
    have h1 : (-((e.length : Int) - n)).toNat = i - e.length := by omega
    rw [h1]
    have : valD e * sc * 10 ^ (i - e.length) = valD e * 10 ^ (i - e.length) * sc := by rw [Nat.mul_assoc, Nat.mul_comm sc, ← Nat.mul_assoc]
    simp [this]
  · have hle : i ≤ e.length := by omega
    rw [Nat.min_eq_right hle] at hv hml
    have hr : (e.length : Int) - n = ((m.length : Nat) : Int) := by omega
    rw [hr]
    have hp0 : i - e.length = 0 := by omega
    rw [hp0, Nat.pow_zero, Nat.mul_one]
    refine rnd_rest hm rfl ?_ hv
    rcases Nat.eq_zero_or_pos i with h0 | h0
    · subst h0
      simp [valD]
    · have : m.length = e.length - i := by omega
      rw [this]; exact valD_split e i
/-- One step of the multiplication, the last digit first. -/
theorem mul_step {c ca sc P vm vl : Nat} (h : vm + ca * P = vl * sc) : ((c * sc + ca) % 10) * P + vm + ((c * sc + ca) / 10) * (P * 10) = (c * P + vl) * sc := by
  have h1 : (c * sc + ca) % 10 * P + (c * sc + ca) / 10 * (P * 10) = (c * sc + ca) * P := by
    have h2 : (c * sc + ca) / 10 * (P * 10) = 10 * ((c * sc + ca) / 10) * P := by rw [Nat.mul_comm P 10, ← Nat.mul_assoc, Nat.mul_comm ((c * sc + ca) / 10) 10]
    rw [h2, ← Nat.add_mul]
    congr 1
    omega
  have h3 : (c * sc + ca) * P = c * P * sc + ca * P := by rw [Nat.add_mul, Nat.mul_assoc, Nat.mul_comm sc P, ← Nat.mul_assoc]
  rw [Nat.add_mul, ← h]
  omega
end Go.Proofs.YtjeblkicgmmhiaaGreatDoor.Ab
namespace Go.Proofs.YtjeblkicgmmhiaaGreatDoor.Ab
open Go
set_option linter.unusedSimpArgs false
set_option maxRecDepth 100000
set_option linter.unusedVariables false
set_option maxHeartbeats 4000000
theorem isScale_ok (n : Int) : Pur F0 193 [I n] [] .no (.ret (B (decide (n = 1 ∨ n = 64 ∨ n = 1000)))) .no := by
  refine pur_code (cf := cfn Tryz.f193) (by kernel_rfl) ?_
  conv => arg 3; reduce
  conv => whnf
  repeat' ((first | refine vb_t rfl ?_ | refine vb_f rfl ?_ | refine vb_t (by assumption) ?_ | refine vb_f (by assumption) ?_ | refine vor_l ?_ | refine vb_i (fun h => ?_) (fun h => ?_) | fail) <;> conv => whnf)
  all_goals (refine ⟨?_, rfl⟩; simp_all [ieq_d])
def isDig (c : UInt8) : Bool := decide (48 ≤ c.toNat) && decide (c.toNat ≤ 57)
theorem digit_ok (c : UInt8) : Pur F0 203 [.d (.int .u8 c.toNat)] [] .no (.ret (B (isDig c))) .no := by
  refine pur_code (cf := cfn Tryz.f203) (by kernel_rfl) ?_
  conv => arg 3; reduce
  conv => whnf
  repeat' ((first | refine vb_t rfl ?_ | refine vb_f rfl ?_ | refine vb_t (by assumption) ?_ | refine vb_f (by assumption) ?_ | refine vor_l ?_ | refine vb_i (fun h => ?_) (fun h => ?_) | fail) <;> conv => whnf)
  all_goals refine ⟨congrArg CR.ret (congrArg AV.d (congrArg DV.bool ?_)), rfl⟩
  all_goals simp only [ile_d, ofn, decide_eq_true_eq, decide_eq_false_iff_not] at *
  all_goals (unfold isDig; rw [Bool.eq_iff_iff]; simp; omega)
/-- Is a sign at a place? -/
def sgn (s : List UInt8) (i : Nat) : Bool := decide (s[i]? = some 43) || decide (s[i]? = some 45)
def sgnB (s : List UInt8) (i : Nat) : Bool := decide (s[i]? = some 45)
def sgnN (s : List UInt8) (i : Nat) : Nat := if sgn s i = true then i + 1 else i
theorem sign_ok (s : List UInt8) (i : Nat) (a : Int) (ha : a = i) (hs : s.length ≤ 140737488355328) (t u : Nat) : Drp F0 2 201 [.ptr 0 0, .ptr 1 0] [⟨.mine, t, .fix [I a]⟩, ⟨.mine, u, .fix [S s]⟩] .no (.ret (B (sgnB s i)))
    [⟨.mine, t, .fix [I (sgnN s i)]⟩, ⟨.mine, u, .fix [S s]⟩] .no := by
  subst ha
  by_cases hi : i < s.length
  · obtain ⟨c, hc⟩ : ∃ c, s[i]? = some c := ⟨s[i], List.getElem?_eq_getElem hi⟩
    have hg : iget s (i : Int) = some c := iget_t hc
    have hg2 : iget s (isub .i64 (iadd .i64 (i : Int) (Int.ofNat 1)) (Int.ofNat 1)) = some c := by rw [back_one (by omega)]; exact hg
    have hlt : ilt (i : Int) (s.length : Int) = true := by rw [ilt_t]; omega
    have e1 := iadd_one (i := i) (by omega)
    refine drp_code (cf := cfn Tryz.f201) (by kernel_rfl) ?_
    conv => arg 3; reduce
    conv => whnf
    repeat' ((first | refine vb_t rfl ?_ | refine vb_f rfl ?_ | refine vb_t (by assumption) ?_ | refine vb_f (by assumption) ?_ | refine vo_i hg ?_ | refine vo_i hg2 ?_ | refine vor_l ?_ | refine vb_i (fun h => ?_) (fun h => ?_) | fail) <;> conv => whnf)
    all_goals refine ⟨congrArg CR.ret (congrArg AV.d (congrArg DV.bool ?_)), cons_eq (fix_eq (cons_eq (I_eq ?_) rfl)) rfl, rfl⟩
    all_goals simp only [ieq_d, ilt_d, ofn, decide_eq_true_eq, decide_eq_false_iff_not] at *
    all_goals simp only [sgnB, sgnN, sgn, hc, u8eq, Option.some.injEq, e1, Bool.or_eq_true, decide_eq_true_eq]
    all_goals simp
    all_goals first
      | omega
      | (rw [if_pos (by omega)]; rfl)
      | (rw [if_neg (by omega)])
  · have hc : s[i]? = none := List.getElem?_eq_none (by omega)
    have hlt : ilt (i : Int) (s.length : Int) = false := by rw [ilt_f]; omega
    refine drp_code (cf := cfn Tryz.f201) (by kernel_rfl) ?_
    conv => arg 3; reduce
    conv => whnf
    repeat' ((first | refine vb_t rfl ?_ | refine vb_f rfl ?_ | refine vb_t (by assumption) ?_ | refine vb_f (by assumption) ?_ | refine vor_l ?_ | refine vb_i (fun h => ?_) (fun h => ?_) | fail) <;> conv => whnf)
    exact ⟨by simp [sgnB, hc], by simp [sgnN, sgn, hc], rfl⟩
/-- How many digits stand from a place on. -/
def digN (s : List UInt8) (i : Nat) : Nat := ((s.drop i).takeWhile isDig).length
def digs (s : List UInt8) (i : Nat) : List UInt8 := (s.drop i).takeWhile isDig
theorem digN_le (s : List UInt8) (i : Nat) (h : i ≤ s.length) : i + digN s i ≤ s.length := by
  have := (List.takeWhile_prefix isDig (l := s.drop i)).length_le
  unfold digN; simp at this; omega
theorem digN_zero {s : List UInt8} {i : Nat} {c : UInt8} (h : s[i]? = some c) (hd : isDig c = false) : digN s i = 0 := by
  have hl := (List.getElem?_eq_some_iff.1 h).1
  have hc := (List.getElem?_eq_some_iff.1 h).2
  unfold digN; rw [List.drop_eq_getElem_cons hl, hc]; simp [hd]
theorem digN_end {s : List UInt8} {i : Nat} (h : s.length ≤ i) : digN s i = 0 := by
  unfold digN; rw [List.drop_eq_nil_of_le h]; rfl
theorem digN_succ {s : List UInt8} {i : Nat} {c : UInt8} (h : s[i]? = some c) (hd : isDig c = true) : digN s i = digN s (i + 1) + 1 := by
  have hl := (List.getElem?_eq_some_iff.1 h).1
  have hc := (List.getElem?_eq_some_iff.1 h).2
  unfold digN; rw [List.drop_eq_getElem_cons hl, hc]; simp [hd]
theorem digs_eq (s : List UInt8) (i : Nat) : digs s i = (s.drop i).take (digN s i) := by
  unfold digs digN
  have := List.takeWhile_prefix isDig (l := s.drop i)
  exact List.prefix_iff_eq_take.1 this
theorem digits_ok (s : List UInt8) (i : Nat) (a : Int) (ha : a = i) (hi : i ≤ s.length) (hs : s.length ≤ 140737488355328) (t u : Nat) : Drp F0 2 202 [.ptr 0 0, .ptr 1 0] [⟨.mine, t, .fix [I a]⟩, ⟨.mine, u, .fix [S s]⟩] .no
    (.ret (S (digs s i))) [⟨.mine, t, .fix [I (i + digN s i : Nat)]⟩, ⟨.mine, u, .fix [S s]⟩] .no := by
  subst ha
  refine drp_code (cf := cfn Tryz.f202) (by kernel_rfl) ?_
  conv => arg 3; reduce
  conv => whnf
  refine vloop_by (σ := { k : Nat // i ≤ k ∧ k ≤ s.length ∧ k + digN s k = i + digN s i }) (fun k => [(0, .ptr 0 0), (1, .ptr 1 0), (2, S []), (3, I i)]) (fun k => [⟨.mine, t, .fix [I k.1]⟩, ⟨.mine, u, .fix [S s]⟩]) (fun k => s.length - k.1) ?_ ⟨i, Nat.le_refl _, hi, rfl⟩
  rintro ⟨k, h1, h2, h3⟩
  by_cases hk : k < s.length
  · obtain ⟨c, hc⟩ : ∃ c, s[k]? = some c := ⟨s[k], List.getElem?_eq_getElem hk⟩
    have hg : iget s (k : Int) = some c := iget_t hc
    have hlt : ilt (k : Int) (s.length : Int) = true := by rw [ilt_t]; omega
    conv => whnf
    repeat' ((first | refine vb_t rfl ?_ | refine vb_f rfl ?_ | refine vb_t (by assumption) ?_ | refine vb_f (by assumption) ?_ | refine vo_i hg ?_ | refine vpur_i (digit_ok _) ?_ | refine vor_l ?_ | refine vb_i (fun h => ?_) (fun h => ?_) | fail) <;> conv => whnf)
    · exact ⟨⟨k + 1, by omega, by omega, by rw [digN_succ hc h] at h3; omega⟩, by simp only; omega, rfl, (cons_eq (fix_eq (cons_eq (I_eq (iadd_one (i := k) (by omega))) rfl)) rfl), rfl, rfl⟩
    · rw [digN_zero hc h] at h3
      obtain rfl : k = i + digN s i := by omega
      refine vo_i (icut_t (l := s) (a := (i : Int)) (b := ((i + digN s i : Nat) : Int)) (by omega) (by omega) (by omega)) ?_
      conv => whnf
      exact ⟨congrArg CR.ret (S_eq (by rw [digs_eq, Int.toNat_natCast, Int.toNat_natCast, List.drop_take, Nat.add_sub_cancel_left])), rfl, rfl⟩
  · have hlt : ilt (k : Int) (s.length : Int) = false := by rw [ilt_f]; omega
    conv => whnf
    repeat' ((first | refine vb_t rfl ?_ | refine vb_f rfl ?_ | refine vb_t (by assumption) ?_ | refine vb_f (by assumption) ?_ | refine vor_l ?_ | refine vb_i (fun h => ?_) (fun h => ?_) | fail) <;> conv => whnf)
    rw [digN_end (s := s) (i := k) (by omega)] at h3
    obtain rfl : k = i + digN s i := by omega
    refine vo_i (icut_t (l := s) (a := (i : Int)) (b := ((i + digN s i : Nat) : Int)) (by omega) (by omega) (by omega)) ?_
    conv => whnf
    exact ⟨congrArg CR.ret (S_eq (by rw [digs_eq, Int.toNat_natCast, Int.toNat_natCast, List.drop_take, Nat.add_sub_cancel_left])), rfl, rfl⟩
/-- A number's text in its parts. -/
structure NumP where
  below : Bool
  whole : List UInt8
  part : List UInt8
  exp : List UInt8
  stop : Nat
def numA (p : NumP) : AV := .agg [B p.below, S p.whole, S p.part, S p.exp, I p.stop]
def pA (s : List UInt8) : Nat := sgnN s 0
def pW (s : List UInt8) : Nat := pA s + digN s (pA s)
def pDot (s : List UInt8) : Bool := decide (s[pW s]? = some 46)
def pP (s : List UInt8) : List UInt8 := if pDot s = true then digs s (pW s + 1) else []
def pE (s : List UInt8) : Nat := if pP s = [] then pW s else pW s + 1 + (pP s).length
def pIsE (s : List UInt8) : Bool := decide (s[pE s]? = some 101) || decide (s[pE s]? = some 69)
def pX (s : List UInt8) : Nat := sgnN s (pE s + 1)
def numP (s : List UInt8) : NumP :=
  if digs s (pA s) = [] ∧ pP s = [] then ⟨false, [], [], [], 0⟩
  else if pIsE s = true ∧ digs s (pX s) ≠ [] then ⟨sgnB s 0, digs s (pA s), pP s, (s.take (pX s + digN s (pX s))).drop (pE s + 1), pX s + digN s (pX s)⟩
  else ⟨sgnB s 0, digs s (pA s), pP s, [], pE s⟩
theorem digs_len (s : List UInt8) (i : Nat) : (digs s i).length = digN s i := rfl
theorem numP_e {s : List UInt8} (hb : ¬ (digs s (pA s) = [] ∧ pP s = [])) (h1 : pIsE s = true) (h2 : digs s (pX s) ≠ []) :
    numP s = ⟨sgnB s 0, digs s (pA s), pP s, (s.take (pX s + digN s (pX s))).drop (pE s + 1), pX s + digN s (pX s)⟩ := by unfold numP; rw [if_neg hb, if_pos ⟨h1, h2⟩]
theorem numP_n {s : List UInt8} (hb : ¬ (digs s (pA s) = [] ∧ pP s = [])) (h : pIsE s = false ∨ digs s (pX s) = []) : numP s = ⟨sgnB s 0, digs s (pA s), pP s, [], pE s⟩ := by
  unfold numP; rw [if_neg hb, if_neg]
  rintro ⟨h1, h2⟩
  rcases h with h | h
  · rw [h] at h1; cases h1
  · exact h2 h
theorem num_eq {a b : Bool} {w w' p p' x x' : List UInt8} {e e' : Int} (h1 : a = b) (h2 : w = w') (h3 : p = p') (h4 : x = x') (h5 : e = e') :
    CR.ret (.agg [B a, S w, S p, S x, I e]) = CR.ret (.agg [B b, S w', S p', S x', I e']) := by rw [h1, h2, h3, h4, h5]
theorem parts_ok (s : List UInt8) (hs : s.length ≤ 140737488355328) : Pur F0 173 [S s] [] .no (.ret (numA (numP s))) .no := by
  have a1 : sgnN s 0 ≤ s.length := by
    unfold sgnN sgn
    cases s with
    | nil => simp
    | cons => split <;> simp
  have a2 : pW s ≤ s.length := digN_le s _ a1
  refine pur_code (cf := cfn Tryz.f173) (by kernel_rfl) ?_
  conv => arg 3; reduce
  conv => whnf
  refine vdrp_i (sign_ok s 0 _ rfl hs _ _) ?_
  conv => whnf
  refine vdrp_i (digits_ok s (pA s) _ rfl a1 hs _ _) ?_
  conv => whnf
  by_cases hd : pDot s = true
  · have hc : s[pW s]? = some 46 := by simpa [pDot] using hd
    have hl : pW s < s.length := (List.getElem?_eq_some_iff.1 hc).1
    have hg : iget s ((pA s + digN s (pA s) : Nat) : Int) = some 46 := iget_t hc
    have hlt : ilt ((pA s + digN s (pA s) : Nat) : Int) (s.length : Int) = true := by rw [ilt_t]; unfold pW at hl; omega
    have he : ieq (((46 : UInt8).toNat : Nat) : Int) (Int.ofNat 46) = true := by rw [ieq_t]; rfl
    have hP : pP s = digs s (pW s + 1) := by unfold pP; rw [if_pos hd]
    repeat' ((first | refine vb_t rfl ?_ | refine vb_f rfl ?_ | refine vb_t (by assumption) ?_ | refine vb_f (by assumption) ?_ | refine vo_i hg ?_ | refine vdrp_i (digits_ok s (pW s + 1) _ (iadd_one (by omega)) hl hs _ _) ?_ | refine vor_l ?_ | fail) <;> conv => whnf)
    by_cases hn : digs s (pW s + 1) = []
    · have hq : seq (digs s (pW s + 1)) [] = true := by rw [seq_t]; exact hn
      have hE : pE s = pW s := by unfold pE; rw [if_pos (hP.trans hn)]
      have hr : isub .i64 ((pW s + 1 + digN s (pW s + 1) : Nat) : Int) (Int.ofNat 1) = ((pE s : Nat) : Int) := by
        have : digN s (pW s + 1) = 0 := by rw [← digs_len, hn]; rfl
        rw [hE, this, isub64] <;> simp <;> omega
      by_cases hw : digs s (pA s) = []
      · have q1 : seq (digs s (pA s)) [] = true := by rw [seq_t]; exact hw
        have hfin : numP s = ⟨false, [], [], [], 0⟩ := by unfold numP; rw [if_pos ⟨hw, hP.trans hn⟩]
        repeat' ((first | refine vb_t rfl ?_ | refine vb_f rfl ?_ | refine vb_t (by assumption) ?_ | refine vb_f (by assumption) ?_ | refine vo_i hg ?_ | refine vor_l ?_ | fail) <;> conv => whnf)
        exact ⟨by rw [hfin]; rfl, rfl⟩
      · have q1 : seq (digs s (pA s)) [] = false := by rw [seq_f]; exact hw
        have hb : ¬ (digs s (pA s) = [] ∧ pP s = []) := fun h => hw h.1
        repeat' ((first | refine vb_t rfl ?_ | refine vb_f rfl ?_ | refine vb_t (by assumption) ?_ | refine vb_f (by assumption) ?_ | refine vo_i hg ?_ | refine vor_l ?_ | fail) <;> conv => whnf)
        have hq0 : seq [] [] = true := by rw [seq_t]
        by_cases hx : pE s < s.length
        · obtain ⟨c, hce⟩ : ∃ c, s[pE s]? = some c := ⟨s[pE s], List.getElem?_eq_getElem hx⟩
          have hlx : ilt (isub .i64 ((pW s + 1 + digN s (pW s + 1) : Nat) : Int) (Int.ofNat 1)) (s.length : Int) = true := ilt_e hr rfl hx
          have hgx : iget s (isub .i64 ((pW s + 1 + digN s (pW s + 1) : Nat) : Int) (Int.ofNat 1)) = some c := iget_e hr hce
          skip
          have a3 : pX s ≤ s.length := by
            unfold pX sgnN sgn
            split
            · rename_i h
              rcases Nat.lt_or_ge (pE s + 1) s.length with h1 | h1
              · omega
              · rw [List.getElem?_eq_none h1] at h; simp at h
            · omega
          by_cases hE1 : c = 101 ∨ c = 69
          · have h1 : pIsE s = true := by unfold pIsE; rw [hce]; rcases hE1 with rfl | rfl <;> rfl
            have hi1 : iadd .i64 (isub .i64 ((pW s + 1 + digN s (pW s + 1) : Nat) : Int) (Int.ofNat 1)) (Int.ofNat 1) = ((pE s + 1 : Nat) : Int) := by rw [hr]; exact iadd_one (by omega)
            have hcut : icut s (iadd .i64 (isub .i64 ((pW s + 1 + digN s (pW s + 1) : Nat) : Int) (Int.ofNat 1)) (Int.ofNat 1)) ((pX s + digN s (pX s) : Nat) : Int) = some ((s.take (pX s + digN s (pX s))).drop (pE s + 1)) :=
              icut_e hi1 rfl (by unfold pX sgnN; split <;> omega) (digN_le s _ a3)
            have t1 : ieq (c.toNat : Int) (Int.ofNat 101) = true ∨ (ieq (c.toNat : Int) (Int.ofNat 101) = false ∧ ieq (c.toNat : Int) (Int.ofNat 69) = true) := by
              rcases hE1 with rfl | rfl
              · exact .inl (ieq_c (c := 101) (k := 101) 101 rfl rfl)
              · exact .inr ⟨ieq_nc (c := 69) (k := 101) 101 rfl (by decide), ieq_c (c := 69) (k := 69) 69 rfl rfl⟩
            by_cases hn : digs s (pX s) = []
            · have hqx : seq (digs s (pX s)) [] = true := by rw [seq_t]; exact hn
              have hqy : (!seq (digs s (pX s)) []) = false := by rw [hqx]; rfl
              have hfin := numP_n hb (.inr hn)
              rcases t1 with t1 | ⟨t1, t2⟩
              all_goals
                repeat' ((first | refine vb_t rfl ?_ | refine vb_f rfl ?_ | refine vb_t (by assumption) ?_ | refine vb_f (by assumption) ?_ | refine vo_i hgx ?_ | refine vdrp_i (sign_ok s (pE s + 1) _ hi1 hs _ _) ?_ | refine vdrp_i (digits_ok s (pX s) _ rfl a3 hs _ _) ?_ | refine vor_l ?_ | fail) <;> conv => whnf)
                exact ⟨by rw [hfin]; exact num_eq rfl rfl hP.symm rfl hr, rfl⟩
            · have hqx : seq (digs s (pX s)) [] = false := by rw [seq_f]; exact hn
              have hqy : (!seq (digs s (pX s)) []) = true := by rw [hqx]; rfl
              have hfin := numP_e hb h1 hn
              rcases t1 with t1 | ⟨t1, t2⟩
              all_goals
                repeat' ((first | refine vb_t rfl ?_ | refine vb_f rfl ?_ | refine vb_t (by assumption) ?_ | refine vb_f (by assumption) ?_ | refine vo_i hgx ?_ | refine vdrp_i (sign_ok s (pE s + 1) _ hi1 hs _ _) ?_ | refine vdrp_i (digits_ok s (pX s) _ rfl a3 hs _ _) ?_ | refine vo_i hcut ?_ | refine vor_l ?_ | fail) <;> conv => whnf)
                exact ⟨by rw [hfin]; exact num_eq rfl rfl hP.symm rfl rfl, rfl⟩
          · have h1 : pIsE s = false := by
              unfold pIsE; rw [hce]; simp; exact ⟨fun e => hE1 (.inl e), fun e => hE1 (.inr e)⟩
            have t1 : ieq (c.toNat : Int) (Int.ofNat 101) = false := ieq_nc 101 rfl fun e => hE1 (.inl e)
            have t2 : ieq (c.toNat : Int) (Int.ofNat 69) = false := ieq_nc 69 rfl fun e => hE1 (.inr e)
            have hfin := numP_n hb (.inl h1)
            repeat' ((first | refine vb_t rfl ?_ | refine vb_f rfl ?_ | refine vb_t (by assumption) ?_ | refine vb_f (by assumption) ?_ | refine vo_i hgx ?_ | refine vor_l ?_ | fail) <;> conv => whnf)
            exact ⟨by rw [hfin]; exact num_eq rfl rfl hP.symm rfl hr, rfl⟩
        · try (exfalso; omega)
          all_goals
            have hlx : ilt (isub .i64 ((pW s + 1 + digN s (pW s + 1) : Nat) : Int) (Int.ofNat 1)) (s.length : Int) = false := ilt_n hr rfl (by omega)
            have h1 : pIsE s = false := by unfold pIsE; rw [List.getElem?_eq_none (by omega)]; rfl
            have hfin := numP_n hb (.inl h1)
            repeat' ((first | refine vb_t rfl ?_ | refine vb_f rfl ?_ | refine vb_t (by assumption) ?_ | refine vb_f (by assumption) ?_ | refine vor_l ?_ | fail) <;> conv => whnf)
            exact ⟨by rw [hfin]; exact num_eq rfl rfl hP.symm rfl hr, rfl⟩
    · have hq : seq (digs s (pW s + 1)) [] = false := by rw [seq_f]; exact hn
      have hE : pE s = pW s + 1 + digN s (pW s + 1) := by unfold pE; rw [if_neg (by rw [hP]; exact hn), hP]; rfl
      have hr : ((pW s + 1 + digN s (pW s + 1) : Nat) : Int) = ((pE s : Nat) : Int) := by rw [hE]
      have hb : ¬ (digs s (pA s) = [] ∧ pP s = []) := fun h => hn (hP.symm.trans h.2)
      by_cases hw : digs s (pA s) = []
      · have q1 : seq (digs s (pA s)) [] = true := by rw [seq_t]; exact hw
        repeat' ((first | refine vb_t rfl ?_ | refine vb_f rfl ?_ | refine vb_t (by assumption) ?_ | refine vb_f (by assumption) ?_ | refine vo_i hg ?_ | refine vor_l ?_ | fail) <;> conv => whnf)
        have hq0 : seq [] [] = true := by rw [seq_t]
        by_cases hx : pE s < s.length
        · obtain ⟨c, hce⟩ : ∃ c, s[pE s]? = some c := ⟨s[pE s], List.getElem?_eq_getElem hx⟩
          have hlx : ilt (((pW s + 1 + digN s (pW s + 1) : Nat) : Int)) (s.length : Int) = true := ilt_e hr rfl hx
          have hgx : iget s (((pW s + 1 + digN s (pW s + 1) : Nat) : Int)) = some c := iget_e hr hce
          skip
          have a3 : pX s ≤ s.length := by
            unfold pX sgnN sgn
            split
            · rename_i h
              rcases Nat.lt_or_ge (pE s + 1) s.length with h1 | h1
              · omega
              · rw [List.getElem?_eq_none h1] at h; simp at h
            · omega
          by_cases hE1 : c = 101 ∨ c = 69
          · have h1 : pIsE s = true := by unfold pIsE; rw [hce]; rcases hE1 with rfl | rfl <;> rfl
            have hi1 : iadd .i64 (((pW s + 1 + digN s (pW s + 1) : Nat) : Int)) (Int.ofNat 1) = ((pE s + 1 : Nat) : Int) := by rw [hr]; exact iadd_one (by omega)
            have hcut : icut s (iadd .i64 (((pW s + 1 + digN s (pW s + 1) : Nat) : Int)) (Int.ofNat 1)) ((pX s + digN s (pX s) : Nat) : Int) = some ((s.take (pX s + digN s (pX s))).drop (pE s + 1)) :=
              icut_e hi1 rfl (by unfold pX sgnN; split <;> omega) (digN_le s _ a3)
            have t1 : ieq (c.toNat : Int) (Int.ofNat 101) = true ∨ (ieq (c.toNat : Int) (Int.ofNat 101) = false ∧ ieq (c.toNat : Int) (Int.ofNat 69) = true) := by
              rcases hE1 with rfl | rfl
              · exact .inl (ieq_c (c := 101) (k := 101) 101 rfl rfl)
              · exact .inr ⟨ieq_nc (c := 69) (k := 101) 101 rfl (by decide), ieq_c (c := 69) (k := 69) 69 rfl rfl⟩
            by_cases hn : digs s (pX s) = []
            · have hqx : seq (digs s (pX s)) [] = true := by rw [seq_t]; exact hn
              have hqy : (!seq (digs s (pX s)) []) = false := by rw [hqx]; rfl
              have hfin := numP_n hb (.inr hn)
              rcases t1 with t1 | ⟨t1, t2⟩
              all_goals
                repeat' ((first | refine vb_t rfl ?_ | refine vb_f rfl ?_ | refine vb_t (by assumption) ?_ | refine vb_f (by assumption) ?_ | refine vo_i hgx ?_ | refine vdrp_i (sign_ok s (pE s + 1) _ hi1 hs _ _) ?_ | refine vdrp_i (digits_ok s (pX s) _ rfl a3 hs _ _) ?_ | refine vor_l ?_ | fail) <;> conv => whnf)
                exact ⟨by rw [hfin]; exact num_eq rfl rfl hP.symm rfl hr, rfl⟩
            · have hqx : seq (digs s (pX s)) [] = false := by rw [seq_f]; exact hn
              have hqy : (!seq (digs s (pX s)) []) = true := by rw [hqx]; rfl
              have hfin := numP_e hb h1 hn
              rcases t1 with t1 | ⟨t1, t2⟩
              all_goals
                repeat' ((first | refine vb_t rfl ?_ | refine vb_f rfl ?_ | refine vb_t (by assumption) ?_ | refine vb_f (by assumption) ?_ | refine vo_i hgx ?_ | refine vdrp_i (sign_ok s (pE s + 1) _ hi1 hs _ _) ?_ | refine vdrp_i (digits_ok s (pX s) _ rfl a3 hs _ _) ?_ | refine vo_i hcut ?_ | refine vor_l ?_ | fail) <;> conv => whnf)
                exact ⟨by rw [hfin]; exact num_eq rfl rfl hP.symm rfl rfl, rfl⟩
          · have h1 : pIsE s = false := by
              unfold pIsE; rw [hce]; simp; exact ⟨fun e => hE1 (.inl e), fun e => hE1 (.inr e)⟩
            have t1 : ieq (c.toNat : Int) (Int.ofNat 101) = false := ieq_nc 101 rfl fun e => hE1 (.inl e)
            have t2 : ieq (c.toNat : Int) (Int.ofNat 69) = false := ieq_nc 69 rfl fun e => hE1 (.inr e)
            have hfin := numP_n hb (.inl h1)
            repeat' ((first | refine vb_t rfl ?_ | refine vb_f rfl ?_ | refine vb_t (by assumption) ?_ | refine vb_f (by assumption) ?_ | refine vo_i hgx ?_ | refine vor_l ?_ | fail) <;> conv => whnf)
            exact ⟨by rw [hfin]; exact num_eq rfl rfl hP.symm rfl hr, rfl⟩
        · try (exfalso; omega)
          all_goals
            have hlx : ilt (((pW s + 1 + digN s (pW s + 1) : Nat) : Int)) (s.length : Int) = false := ilt_n hr rfl (by omega)
            have h1 : pIsE s = false := by unfold pIsE; rw [List.getElem?_eq_none (by omega)]; rfl
            have hfin := numP_n hb (.inl h1)
            repeat' ((first | refine vb_t rfl ?_ | refine vb_f rfl ?_ | refine vb_t (by assumption) ?_ | refine vb_f (by assumption) ?_ | refine vor_l ?_ | fail) <;> conv => whnf)
            exact ⟨by rw [hfin]; exact num_eq rfl rfl hP.symm rfl hr, rfl⟩
      · have q1 : seq (digs s (pA s)) [] = false := by rw [seq_f]; exact hw
        repeat' ((first | refine vb_t rfl ?_ | refine vb_f rfl ?_ | refine vb_t (by assumption) ?_ | refine vb_f (by assumption) ?_ | refine vo_i hg ?_ | refine vor_l ?_ | fail) <;> conv => whnf)
        have hq0 : seq [] [] = true := by rw [seq_t]
        by_cases hx : pE s < s.length
        · obtain ⟨c, hce⟩ : ∃ c, s[pE s]? = some c := ⟨s[pE s], List.getElem?_eq_getElem hx⟩
          have hlx : ilt (((pW s + 1 + digN s (pW s + 1) : Nat) : Int)) (s.length : Int) = true := ilt_e hr rfl hx
          have hgx : iget s (((pW s + 1 + digN s (pW s + 1) : Nat) : Int)) = some c := iget_e hr hce
          skip
          have a3 : pX s ≤ s.length := by
            unfold pX sgnN sgn
            split
            · rename_i h
              rcases Nat.lt_or_ge (pE s + 1) s.length with h1 | h1
              · omega
              · rw [List.getElem?_eq_none h1] at h; simp at h
            · omega
          by_cases hE1 : c = 101 ∨ c = 69
          · have h1 : pIsE s = true := by unfold pIsE; rw [hce]; rcases hE1 with rfl | rfl <;> rfl
            have hi1 : iadd .i64 (((pW s + 1 + digN s (pW s + 1) : Nat) : Int)) (Int.ofNat 1) = ((pE s + 1 : Nat) : Int) := by rw [hr]; exact iadd_one (by omega)
            have hcut : icut s (iadd .i64 (((pW s + 1 + digN s (pW s + 1) : Nat) : Int)) (Int.ofNat 1)) ((pX s + digN s (pX s) : Nat) : Int) = some ((s.take (pX s + digN s (pX s))).drop (pE s + 1)) :=
              icut_e hi1 rfl (by unfold pX sgnN; split <;> omega) (digN_le s _ a3)
            have t1 : ieq (c.toNat : Int) (Int.ofNat 101) = true ∨ (ieq (c.toNat : Int) (Int.ofNat 101) = false ∧ ieq (c.toNat : Int) (Int.ofNat 69) = true) := by
              rcases hE1 with rfl | rfl
              · exact .inl (ieq_c (c := 101) (k := 101) 101 rfl rfl)
              · exact .inr ⟨ieq_nc (c := 69) (k := 101) 101 rfl (by decide), ieq_c (c := 69) (k := 69) 69 rfl rfl⟩
            by_cases hn : digs s (pX s) = []
            · have hqx : seq (digs s (pX s)) [] = true := by rw [seq_t]; exact hn
              have hqy : (!seq (digs s (pX s)) []) = false := by rw [hqx]; rfl
              have hfin := numP_n hb (.inr hn)
              rcases t1 with t1 | ⟨t1, t2⟩
              all_goals
                repeat' ((first | refine vb_t rfl ?_ | refine vb_f rfl ?_ | refine vb_t (by assumption) ?_ | refine vb_f (by assumption) ?_ | refine vo_i hgx ?_ | refine vdrp_i (sign_ok s (pE s + 1) _ hi1 hs _ _) ?_ | refine vdrp_i (digits_ok s (pX s) _ rfl a3 hs _ _) ?_ | refine vor_l ?_ | fail) <;> conv => whnf)
                exact ⟨by rw [hfin]; exact num_eq rfl rfl hP.symm rfl hr, rfl⟩
            · have hqx : seq (digs s (pX s)) [] = false := by rw [seq_f]; exact hn
              have hqy : (!seq (digs s (pX s)) []) = true := by rw [hqx]; rfl
              have hfin := numP_e hb h1 hn
              rcases t1 with t1 | ⟨t1, t2⟩
              all_goals
                repeat' ((first | refine vb_t rfl ?_ | refine vb_f rfl ?_ | refine vb_t (by assumption) ?_ | refine vb_f (by assumption) ?_ | refine vo_i hgx ?_ | refine vdrp_i (sign_ok s (pE s + 1) _ hi1 hs _ _) ?_ | refine vdrp_i (digits_ok s (pX s) _ rfl a3 hs _ _) ?_ | refine vo_i hcut ?_ | refine vor_l ?_ | fail) <;> conv => whnf)
                exact ⟨by rw [hfin]; exact num_eq rfl rfl hP.symm rfl rfl, rfl⟩
          · have h1 : pIsE s = false := by
              unfold pIsE; rw [hce]; simp; exact ⟨fun e => hE1 (.inl e), fun e => hE1 (.inr e)⟩
            have t1 : ieq (c.toNat : Int) (Int.ofNat 101) = false := ieq_nc 101 rfl fun e => hE1 (.inl e)
            have t2 : ieq (c.toNat : Int) (Int.ofNat 69) = false := ieq_nc 69 rfl fun e => hE1 (.inr e)
            have hfin := numP_n hb (.inl h1)
            repeat' ((first | refine vb_t rfl ?_ | refine vb_f rfl ?_ | refine vb_t (by assumption) ?_ | refine vb_f (by assumption) ?_ | refine vo_i hgx ?_ | refine vor_l ?_ | fail) <;> conv => whnf)
            exact ⟨by rw [hfin]; exact num_eq rfl rfl hP.symm rfl hr, rfl⟩
        · try (exfalso; omega)
          all_goals
            have hlx : ilt (((pW s + 1 + digN s (pW s + 1) : Nat) : Int)) (s.length : Int) = false := ilt_n hr rfl (by omega)
            have h1 : pIsE s = false := by unfold pIsE; rw [List.getElem?_eq_none (by omega)]; rfl
            have hfin := numP_n hb (.inl h1)
            repeat' ((first | refine vb_t rfl ?_ | refine vb_f rfl ?_ | refine vb_t (by assumption) ?_ | refine vb_f (by assumption) ?_ | refine vor_l ?_ | fail) <;> conv => whnf)
            exact ⟨by rw [hfin]; exact num_eq rfl rfl hP.symm rfl hr, rfl⟩
  · have hP : pP s = [] := by unfold pP; rw [if_neg hd]
    have hE : pE s = pW s := by unfold pE; rw [if_pos hP]
    have hr : ((pA s + digN s (pA s) : Nat) : Int) = ((pE s : Nat) : Int) := by rw [hE]; rfl
    have hq0 : seq [] [] = true := by rw [seq_t]
    have hdd : s[pW s]? ≠ some 46 := by simpa [pDot] using hd
    by_cases hw : digs s (pA s) = []
    · have q1 : seq (digs s (pA s)) [] = true := by rw [seq_t]; exact hw
      have hfin : numP s = ⟨false, [], [], [], 0⟩ := by unfold numP; rw [if_pos ⟨hw, hP⟩]
      by_cases hl : pW s < s.length
      · obtain ⟨c, hc⟩ : ∃ c, s[pW s]? = some c := ⟨s[pW s], List.getElem?_eq_getElem hl⟩
        have hg : iget s ((pA s + digN s (pA s) : Nat) : Int) = some c := iget_t hc
        have hlt : ilt ((pA s + digN s (pA s) : Nat) : Int) (s.length : Int) = true := ilt_e rfl rfl hl
        have he : ieq (c.toNat : Int) (Int.ofNat 46) = false := ieq_nc 46 rfl fun e => hdd (by rw [hc, e])
        repeat' ((first | refine vb_t rfl ?_ | refine vb_f rfl ?_ | refine vb_t (by assumption) ?_ | refine vb_f (by assumption) ?_ | refine vo_i hg ?_ | refine vor_l ?_ | fail) <;> conv => whnf)
        exact ⟨by rw [hfin]; rfl, rfl⟩
      · have hlt : ilt ((pA s + digN s (pA s) : Nat) : Int) (s.length : Int) = false := ilt_n rfl rfl (by unfold pW at hl; omega)
        repeat' ((first | refine vb_t rfl ?_ | refine vb_f rfl ?_ | refine vb_t (by assumption) ?_ | refine vb_f (by assumption) ?_ | refine vor_l ?_ | fail) <;> conv => whnf)
        exact ⟨by rw [hfin]; rfl, rfl⟩
    · have q1 : seq (digs s (pA s)) [] = false := by rw [seq_f]; exact hw
      have hb : ¬ (digs s (pA s) = [] ∧ pP s = []) := fun h => hw h.1
      by_cases hl : pW s < s.length
      · obtain ⟨c, hc⟩ : ∃ c, s[pW s]? = some c := ⟨s[pW s], List.getElem?_eq_getElem hl⟩
        have hg : iget s ((pA s + digN s (pA s) : Nat) : Int) = some c := iget_t hc
        have hlt : ilt ((pA s + digN s (pA s) : Nat) : Int) (s.length : Int) = true := ilt_e rfl rfl hl
        have he : ieq (c.toNat : Int) (Int.ofNat 46) = false := ieq_nc 46 rfl fun e => hdd (by rw [hc, e])
        repeat' ((first | refine vb_t rfl ?_ | refine vb_f rfl ?_ | refine vb_t (by assumption) ?_ | refine vb_f (by assumption) ?_ | refine vo_i hg ?_ | refine vor_l ?_ | fail) <;> conv => whnf)
        have hq0 : seq [] [] = true := by rw [seq_t]
        by_cases hx : pE s < s.length
        · obtain ⟨c, hce⟩ : ∃ c, s[pE s]? = some c := ⟨s[pE s], List.getElem?_eq_getElem hx⟩
          have hlx : ilt (((pA s + digN s (pA s) : Nat) : Int)) (s.length : Int) = true := ilt_e hr rfl hx
          have hgx : iget s (((pA s + digN s (pA s) : Nat) : Int)) = some c := iget_e hr hce
          obtain rfl := Option.some.inj (hgx.symm.trans hg)
          have a3 : pX s ≤ s.length := by
            unfold pX sgnN sgn
            split
            · rename_i h
              rcases Nat.lt_or_ge (pE s + 1) s.length with h1 | h1
              · omega
              · rw [List.getElem?_eq_none h1] at h; simp at h
            · omega
          by_cases hE1 : c = 101 ∨ c = 69
          · have h1 : pIsE s = true := by unfold pIsE; rw [hce]; rcases hE1 with rfl | rfl <;> rfl
            have hi1 : iadd .i64 (((pA s + digN s (pA s) : Nat) : Int)) (Int.ofNat 1) = ((pE s + 1 : Nat) : Int) := by rw [hr]; exact iadd_one (by omega)
            have hcut : icut s (iadd .i64 (((pA s + digN s (pA s) : Nat) : Int)) (Int.ofNat 1)) ((pX s + digN s (pX s) : Nat) : Int) = some ((s.take (pX s + digN s (pX s))).drop (pE s + 1)) :=
              icut_e hi1 rfl (by unfold pX sgnN; split <;> omega) (digN_le s _ a3)
            have t1 : ieq (c.toNat : Int) (Int.ofNat 101) = true ∨ (ieq (c.toNat : Int) (Int.ofNat 101) = false ∧ ieq (c.toNat : Int) (Int.ofNat 69) = true) := by
              rcases hE1 with rfl | rfl
              · exact .inl (ieq_c (c := 101) (k := 101) 101 rfl rfl)
              · exact .inr ⟨ieq_nc (c := 69) (k := 101) 101 rfl (by decide), ieq_c (c := 69) (k := 69) 69 rfl rfl⟩
            by_cases hn : digs s (pX s) = []
            · have hqx : seq (digs s (pX s)) [] = true := by rw [seq_t]; exact hn
              have hqy : (!seq (digs s (pX s)) []) = false := by rw [hqx]; rfl
              have hfin := numP_n hb (.inr hn)
              rcases t1 with t1 | ⟨t1, t2⟩
              all_goals
                repeat' ((first | refine vb_t rfl ?_ | refine vb_f rfl ?_ | refine vb_t (by assumption) ?_ | refine vb_f (by assumption) ?_ | refine vo_i hgx ?_ | refine vdrp_i (sign_ok s (pE s + 1) _ hi1 hs _ _) ?_ | refine vdrp_i (digits_ok s (pX s) _ rfl a3 hs _ _) ?_ | refine vor_l ?_ | fail) <;> conv => whnf)
                exact ⟨by rw [hfin]; exact num_eq rfl rfl hP.symm rfl hr, rfl⟩
            · have hqx : seq (digs s (pX s)) [] = false := by rw [seq_f]; exact hn
              have hqy : (!seq (digs s (pX s)) []) = true := by rw [hqx]; rfl
              have hfin := numP_e hb h1 hn
              rcases t1 with t1 | ⟨t1, t2⟩
              all_goals
                repeat' ((first | refine vb_t rfl ?_ | refine vb_f rfl ?_ | refine vb_t (by assumption) ?_ | refine vb_f (by assumption) ?_ | refine vo_i hgx ?_ | refine vdrp_i (sign_ok s (pE s + 1) _ hi1 hs _ _) ?_ | refine vdrp_i (digits_ok s (pX s) _ rfl a3 hs _ _) ?_ | refine vo_i hcut ?_ | refine vor_l ?_ | fail) <;> conv => whnf)
                exact ⟨by rw [hfin]; exact num_eq rfl rfl hP.symm rfl rfl, rfl⟩
          · have h1 : pIsE s = false := by
              unfold pIsE; rw [hce]; simp; exact ⟨fun e => hE1 (.inl e), fun e => hE1 (.inr e)⟩
            have t1 : ieq (c.toNat : Int) (Int.ofNat 101) = false := ieq_nc 101 rfl fun e => hE1 (.inl e)
            have t2 : ieq (c.toNat : Int) (Int.ofNat 69) = false := ieq_nc 69 rfl fun e => hE1 (.inr e)
            have hfin := numP_n hb (.inl h1)
            repeat' ((first | refine vb_t rfl ?_ | refine vb_f rfl ?_ | refine vb_t (by assumption) ?_ | refine vb_f (by assumption) ?_ | refine vo_i hgx ?_ | refine vor_l ?_ | fail) <;> conv => whnf)
            exact ⟨by rw [hfin]; exact num_eq rfl rfl hP.symm rfl hr, rfl⟩
        · try (exfalso; omega)
          all_goals
            have hlx : ilt (((pA s + digN s (pA s) : Nat) : Int)) (s.length : Int) = false := ilt_n hr rfl (by omega)
            have h1 : pIsE s = false := by unfold pIsE; rw [List.getElem?_eq_none (by omega)]; rfl
            have hfin := numP_n hb (.inl h1)
            repeat' ((first | refine vb_t rfl ?_ | refine vb_f rfl ?_ | refine vb_t (by assumption) ?_ | refine vb_f (by assumption) ?_ | refine vor_l ?_ | fail) <;> conv => whnf)
            exact ⟨by rw [hfin]; exact num_eq rfl rfl hP.symm rfl hr, rfl⟩
      · have hlt : ilt ((pA s + digN s (pA s) : Nat) : Int) (s.length : Int) = false := ilt_n rfl rfl (by unfold pW at hl; omega)
        have hfin := numP_n hb (.inl (show pIsE s = false by unfold pIsE; rw [List.getElem?_eq_none (by omega)]; rfl))
        repeat' ((first | refine vb_t rfl ?_ | refine vb_f rfl ?_ | refine vb_t (by assumption) ?_ | refine vb_f (by assumption) ?_ | refine vor_l ?_ | fail) <;> conv => whnf)
        exact ⟨by rw [hfin]; exact num_eq rfl rfl hP.symm rfl hr, rfl⟩
end Go.Proofs.YtjeblkicgmmhiaaGreatDoor.Ab
namespace Go.Proofs.YtjeblkicgmmhiaaGreatDoor.Ab
open Go
set_option linter.unusedSimpArgs false
set_option maxRecDepth 100000
set_option linter.unusedVariables false
set_option maxHeartbeats 4000000
theorem tail_cut (c : UInt8) (t : List UInt8) : icut ((c :: t).map byteRow) (Int.ofNat 1) (((c :: t).map byteRow).length : Int) = some (t.map byteRow) := by
  rw [icut_t (by decide) (by simp only [ofn, List.length_map, List.length_cons]; omega) (Int.le_refl _)]
  rw [Int.toNat_natCast, List.take_length]
  rfl
theorem of_dig {x : Nat} (h : x < 256) : (UInt8.ofNat x).toNat = x := by rw [UInt8.toNat_ofNat']; omega
theorem dig_row {x : Nat} (h : x < 256) : byteRow (UInt8.ofNat x) = [DV.int .u8 (icast .u8 (x : Int))] := by
  show [DV.int .u8 ((UInt8.ofNat x).toNat : Int)] = _
  rw [of_dig h]
  have : icast .u8 (x : Int) = (x : Int) := by
    unfold icast
    simp only [IntKind.wrap, IntKind.signed, IntKind.bits, Bool.false_and, Bool.false_eq_true, if_false]
    omega
  rw [this]
theorem set_dig {m : List UInt8} {q x : Nat} (h : digsOk m) (hx : x ≤ 9) : digsOk (m.set q (UInt8.ofNat x)) := fun c hc => by
  rcases List.mem_or_eq_of_mem_set hc with h1 | h1
  · exact h c h1
  · rw [h1, of_dig (by omega)]; exact hx
theorem set_take {m : List UInt8} {q : Nat} {a : UInt8} : (m.set q a).take q = m.take q := by
  apply List.ext_getElem?
  intro i
  rw [List.getElem?_take, List.getElem?_take]
  split
  · rw [List.getElem?_set_ne (by omega)]
  · rfl
theorem drop_get1 {l : List UInt8} {i : Nat} {x : UInt8} (h : l[i]? = some x) : l.drop i = x :: l.drop (i + 1) := by
  obtain ⟨h1, h2⟩ := List.getElem?_eq_some_iff.1 h
  rw [List.drop_eq_getElem_cons h1, h2]
theorem set_drop {m : List UInt8} {q : Nat} {a : UInt8} (h : q < m.length) : (m.set q a).drop q = a :: m.drop (q + 1) := by
  rw [drop_get1 (x := a) (by rw [List.getElem?_set_self h])]
  congr 1
  apply List.ext_getElem?
  intro i
  rw [List.getElem?_drop, List.getElem?_drop, List.getElem?_set_ne (by omega)]
def bys : Option (Nat × List UInt8) → List UInt8
  | none => []
  | some (_, l) => l
theorem scaledX_ok (d : List UInt8) (point : Int) (sc : Nat) (hsc : sc ≤ 1000) (hsc1 : 1 ≤ sc) (hd : d.length ≤ 1000000) (hdg : digsOk d) (hp1 : -1000000 ≤ point) (hp2 : point ≤ 2000000) :
    ∃ x : Int × Bool, Pur F0 194 [.d (.sl 1 (d.map byteRow)), I point, I (sc : Int)] [] .no (.ret (.tup [I x.1, B x.2])) .no ∧
      (x.2 = decide (rndN (valD d * sc) ((d.length : Int) - point) ≤ 68719476736) ∧ (x.2 = true → x.1 = (rndN (valD d * sc) ((d.length : Int) - point) : Nat))) := by
  obtain ⟨N, hN⟩ : ∃ N, rndN (valD d * sc) ((d.length : Int) - point) = N := ⟨_, rfl⟩
  rw [hN]
  refine pur_ret (σ := Int × Bool) (g := fun x => .tup [I x.1, B x.2]) (Q := fun x => x.2 = decide (N ≤ 68719476736) ∧ (x.2 = true → x.1 = (N : Nat))) code194_ok ?_
  conv => whnf
  refine vloop_by (σ := { x : List UInt8 × Int // x.1.length ≤ d.length ∧ digsOk x.1 ∧ valD x.1 = valD d ∧ (x.1.length : Int) - x.2 = d.length - point }) (fun x => [(0, .d (.sl 1 (x.1.1.map byteRow))), (1, I x.1.2), (2, I (sc : Int)), (6, I 0), (7, B false)]) (fun _ => []) (fun x => x.1.1.length) ?_ ⟨(d, point), Nat.le_refl _, hdg, rfl, rfl⟩
  rintro ⟨⟨e, n⟩, he, heg, hv, hb⟩
  simp only at he heg hv hb
  conv => whnf
  cases e with
  | nil =>
    have q0 : ilt (Int.ofNat 0) ((([] : List UInt8).map byteRow).length : Int) = false := by rw [ilt_f]; decide
    have q1 : ieq ((([] : List UInt8).map byteRow).length : Int) (Int.ofNat 0) = true := by rw [ieq_t]; decide
    repeat' ((first | refine vb_t rfl ?_ | refine vb_f rfl ?_ | refine vb_t (by assumption) ?_ | refine vb_f (by assumption) ?_ | refine vor_l ?_ | fail) <;> conv => whnf)
    refine ⟨(_, _), rfl, rfl, ?_⟩
    have h0 : N = 0 := by
      rw [← hN, ← hv]
      show rndN (valD [] * sc) _ = 0
      simp only [valD, Nat.zero_mul]
      unfold rndN; split
      · simp
      · simp
    subst h0
    exact ⟨by decide, fun _ => rfl⟩
  | cons c t =>
    have q0 : ilt (Int.ofNat 0) (((c :: t).map byteRow).length : Int) = true := by rw [ilt_t, List.length_map, ofn, List.length_cons]; omega
    have hc : iget ((c :: t).map byteRow) (Int.ofNat 0) = some (byteRow c) := iget_t (n := 0) rfl
    have hcut := tail_cut c t
    by_cases hz : c.toNat = 0
    · have q1 : ieq (c.toNat : Int) (Int.ofNat 0) = true := by rw [ieq_t, hz]; rfl
      repeat' ((first | refine vb_t rfl ?_ | refine vb_f rfl ?_ | refine vb_t (by assumption) ?_ | refine vb_f (by assumption) ?_ | refine vo_i hc ?_ | refine vo_i hcut ?_ | refine vor_l ?_ | fail) <;> conv => whnf)
      simp only [List.length_cons] at he hb
      refine ⟨⟨(t, n - 1), by show t.length ≤ d.length; omega, fun x hx => heg x (List.mem_cons_of_mem _ hx), by rw [← hv]; simp only [valD, hz]; omega, by show (t.length : Int) - (n - 1) = _; omega⟩, by show t.length < t.length + 1; omega, cons_eq rfl (cons_eq (slot_eq (I_eq ?_)) rfl), rfl, rfl, rfl⟩
      show isub .i64 n (Int.ofNat 1) = n - 1
      rw [ofn, isub64 (by omega) (by omega)]; rfl
    · have q1 : ieq (c.toNat : Int) (Int.ofNat 0) = false := by rw [ieq_f, ofn]; omega
      have q2 : ieq (((c :: t).map byteRow).length : Int) (Int.ofNat 0) = false := by rw [ieq_f, List.length_map, ofn, List.length_cons]; omega
      have hlo := valD_first (c := c) (l := t) hz
      have hhi := valD_lt _ heg
      have hm1 : valD (c :: t) * 1 ≤ valD (c :: t) * sc := Nat.mul_le_mul_left _ hsc1
      have hm2 : valD (c :: t) * sc ≤ valD (c :: t) * 1000 := Nat.mul_le_mul_left _ hsc
      have hN2 : rndN (valD (c :: t) * sc) (((c :: t).length : Int) - n) = N := by rw [hv, hb, hN]
      repeat' ((first | refine vb_t rfl ?_ | refine vb_f rfl ?_ | refine vb_t (by assumption) ?_ | refine vb_f (by assumption) ?_ | refine vo_i hc ?_ | refine vor_l ?_ | fail) <;> conv => whnf)
      refine vb_i (fun h => ?_) (fun h => ?_) <;> conv => whnf
      · repeat' ((first | refine vb_t rfl ?_ | refine vb_f rfl ?_ | refine vb_t (by assumption) ?_ | refine vb_f (by assumption) ?_ | refine vor_l ?_ | fail) <;> conv => whnf)
        refine ⟨(_, _), rfl, rfl, ?_⟩
        have hn : n < -5 := by (first | omega | (simp only [ilt_t, ilt_f, ile_t, ile_f, ieq_t, ieq_f, ofn, List.length_map, Bool.not_eq_true', Bool.not_eq_false'] at *; omega))
        have h0 : N = 0 := by
          rw [← hN2]
          obtain ⟨r, hr⟩ : ∃ r : Nat, ((c :: t).length : Int) - n = (r : Int) := ⟨(((c :: t).length : Int) - n).toNat, by omega⟩
          refine rndN_small r hr (by omega) ?_
          have h5 : 10 ^ ((c :: t).length + 3) ≤ 10 ^ (r - 1) := Nat.pow_le_pow_right (by decide) (by omega)
          rw [Nat.pow_add] at h5
          have h6 : (10 : Nat) ^ 3 = 1000 := by decide
          rw [h6] at h5
          omega
        subst h0
        exact ⟨by decide, fun _ => rfl⟩
      repeat' ((first | refine vb_t rfl ?_ | refine vb_f rfl ?_ | refine vb_t (by assumption) ?_ | refine vb_f (by assumption) ?_ | refine vor_l ?_ | fail) <;> conv => whnf)
      refine vb_i (fun h => ?_) (fun h => ?_) <;> conv => whnf
      · repeat' ((first | refine vb_t rfl ?_ | refine vb_f rfl ?_ | refine vb_t (by assumption) ?_ | refine vb_f (by assumption) ?_ | refine vor_l ?_ | fail) <;> conv => whnf)
        refine ⟨(_, _), rfl, rfl, ?_⟩
        have hn : 13 < n := by (first | omega | (simp only [ilt_t, ilt_f, ile_t, ile_f, ieq_t, ieq_f, ofn, List.length_map, Bool.not_eq_true', Bool.not_eq_false'] at *; omega))
        have h0 : 10 ^ 13 ≤ N := by
          rw [← hN2]
          refine rndN_big 13 t.length (by omega) ?_
          simp only [List.length_cons]; omega
        have h6 : (10 : Nat) ^ 13 = 10000000000000 := by decide
        rw [h6] at h0
        refine ⟨?_, fun h => by cases h⟩
        show false = decide (N ≤ 68719476736)
        rw [eq_comm, decide_eq_false_iff_not]; omega
      have hn1 : n ≤ 13 := by (first | omega | (simp only [ilt_t, ilt_f, ile_t, ile_f, ieq_t, ieq_f, ofn, List.length_map, Bool.not_eq_true', Bool.not_eq_false'] at *; omega))
      have hn2 : -5 ≤ n := by (first | omega | (simp only [ilt_t, ilt_f, ile_t, ile_f, ieq_t, ieq_f, ofn, List.length_map, Bool.not_eq_true', Bool.not_eq_false'] at *; omega))
      generalize c :: t = e at *
      clear hc hcut hlo hhi hm1 hm2 hz q0
      obtain ⟨P, hP⟩ : ∃ P : Nat, n.toNat = P := ⟨_, rfl⟩
      have eM : imax (Int.ofNat 0) n = (P : Int) := by rw [imax_d, ofn]; split <;> omega
      have hP13 : P ≤ 13 := by omega
      have hw : ∀ i, valD (e.take i) * 10 ^ (i - e.length) < 10 ^ i := fun i => by
        have h1 := valD_lt (e.take i) fun x hx => heg x (List.mem_of_mem_take hx)
        rw [List.length_take] at h1
        have h2 : valD (e.take i) * 10 ^ (i - e.length) < 10 ^ min i e.length * 10 ^ (i - e.length) := (Nat.mul_lt_mul_right (Nat.pow_pos (by decide))).2 h1
        rw [← Nat.pow_add] at h2
        have h3 : min i e.length + (i - e.length) = i := by omega
        rwa [h3] at h2
      have h13 : ∀ i, i ≤ 13 → 10 ^ i ≤ 10000000000000 := fun i hi => Nat.le_trans (Nat.pow_le_pow_right (by decide) hi) (by decide)
      refine vloop_eq2 (fr' := [(0, .d (.sl 1 (e.map byteRow))), (1, I n), (2, I (sc : Int)), (6, I 0), (7, B false), (8, I ((valD (e.take 0) * 10 ^ (0 - e.length) : Nat) : Int)), (40, I (P : Int)), (41, I ((0 : Nat) : Int))]) ?_ rfl ?_
      · exact cons_eq rfl (cons_eq rfl (cons_eq rfl (cons_eq rfl (cons_eq rfl (cons_eq (slot_eq (I_eq (by simp [valD]))) (cons_eq (slot_eq (I_eq eM)) rfl))))))
      refine vloop_by (σ := { i : Nat // i ≤ P }) (fun i => [(0, .d (.sl 1 (e.map byteRow))), (1, I n), (2, I (sc : Int)), (6, I 0), (7, B false), (8, I ((valD (e.take i.1) * 10 ^ (i.1 - e.length) : Nat) : Int)), (40, I (P : Int)), (41, I (i.1 : Int))]) (fun _ => []) (fun i => P - i.1) ?_ ⟨0, Nat.zero_le _⟩
      rintro ⟨i, hi⟩
      conv => whnf
      refine vb_i (fun h => ?_) (fun h => ?_) <;> conv => whnf
      · have hiP : i < P := by (first | omega | (simp only [ilt_t, ilt_f, ile_t, ile_f, ieq_t, ieq_f, ofn, List.length_map, Bool.not_eq_true', Bool.not_eq_false'] at *; omega))
        have hwi := hw i
        have h13i := h13 i (by omega)
        obtain ⟨W, hW⟩ : ∃ W, valD (e.take i) * 10 ^ (i - e.length) = W := ⟨_, rfl⟩
        rw [hW] at hwi
        have e1 : imul .i64 (W : Int) (Int.ofNat 10) = ((W * 10 : Nat) : Int) := by rw [ofn, imul64 (by omega) (by omega)]; omega
        refine vb_i (fun h => ?_) (fun h => ?_) <;> conv => whnf
        · have hie : i < e.length := by (first | omega | (simp only [ilt_t, ilt_f, ile_t, ile_f, ieq_t, ieq_f, ofn, List.length_map, Bool.not_eq_true', Bool.not_eq_false'] at *; omega))
          obtain ⟨c, hc⟩ : ∃ c, e[i]? = some c := ⟨e[i], List.getElem?_eq_getElem hie⟩
          have hr : iget (e.map byteRow) (i : Int) = some (byteRow c) := iget_t (by rw [List.getElem?_map, hc]; rfl)
          have hc9 := heg c (List.mem_of_getElem? hc)
          have e2 : iadd .i64 ((W * 10 : Nat) : Int) (c.toNat : Int) = ((W * 10 + c.toNat : Nat) : Int) := by rw [iadd64 (by omega) (by omega)]; omega
          have e3 : valD (e.take (i + 1)) * 10 ^ (i + 1 - e.length) = W * 10 + c.toNat := by
            rw [← hW, List.take_add_one, hc, valD_append, Nat.sub_eq_zero_of_le (by omega), Nat.sub_eq_zero_of_le (by omega)]
            simp [valD]
          repeat' ((first | refine vb_t rfl ?_ | refine vb_f rfl ?_ | refine vb_t (by assumption) ?_ | refine vb_f (by assumption) ?_ | refine vo_i hr ?_ | refine vor_l ?_ | fail) <;> conv => whnf)
          refine ⟨⟨i + 1, hiP⟩, by simp only; omega, cons_eq rfl (cons_eq rfl (cons_eq rfl (cons_eq rfl (cons_eq rfl (cons_eq (slot_eq (I_eq ?_)) (cons_eq rfl (cons_eq (slot_eq (I_eq (iadd_one (i := i) (by omega)))) rfl))))))), rfl, rfl, rfl⟩
          show iadd .i64 (imul .i64 ((valD (e.take i) * 10 ^ (i - e.length) : Nat) : Int) (Int.ofNat 10)) (icast .i64 (c.toNat : Int)) = ((valD (e.take (i + 1)) * 10 ^ (i + 1 - e.length) : Nat) : Int)
          rw [hW, e1, icast64 (by omega) (by omega), e2, e3]
        · have hie : e.length ≤ i := by (first | omega | (simp only [ilt_t, ilt_f, ile_t, ile_f, ieq_t, ieq_f, ofn, List.length_map, Bool.not_eq_true', Bool.not_eq_false'] at *; omega))
          have e3 : valD (e.take (i + 1)) * 10 ^ (i + 1 - e.length) = W * 10 := by
            rw [← hW, List.take_of_length_le (by omega), List.take_of_length_le (by omega), Nat.succ_sub hie, Nat.pow_succ, Nat.mul_assoc]
          repeat' ((first | refine vb_t rfl ?_ | refine vb_f rfl ?_ | refine vb_t (by assumption) ?_ | refine vb_f (by assumption) ?_ | refine vor_l ?_ | fail) <;> conv => whnf)
          refine ⟨⟨i + 1, hiP⟩, by simp only; omega, cons_eq rfl (cons_eq rfl (cons_eq rfl (cons_eq rfl (cons_eq rfl (cons_eq (slot_eq (I_eq ?_)) (cons_eq rfl (cons_eq (slot_eq (I_eq (iadd_one (i := i) (by omega)))) rfl))))))), rfl, rfl, rfl⟩
          show imul .i64 ((valD (e.take i) * 10 ^ (i - e.length) : Nat) : Int) (Int.ofNat 10) = ((valD (e.take (i + 1)) * 10 ^ (i + 1 - e.length) : Nat) : Int)
          rw [hW, e1, e3]
      · have hiP : i = P := by (first | omega | (simp only [ilt_t, ilt_f, ile_t, ile_f, ieq_t, ieq_f, ofn, List.length_map, Bool.not_eq_true', Bool.not_eq_false'] at *; omega))
        subst hiP
        obtain ⟨W, hW⟩ : ∃ W, valD (e.take i) * 10 ^ (i - e.length) = W := ⟨_, rfl⟩
        have hW13 : W < 10000000000000 := by have h1 := hw i; have h2 := h13 i hP13; rw [hW] at h1; omega
        obtain ⟨Z, hZ⟩ : ∃ Z : Nat, (-n).toNat = Z := ⟨_, rfl⟩
        have eZ : imax (Int.ofNat 0) (isub .i64 0 n) = (Z : Int) := by rw [imax_d, isub64 (by omega) (by omega), ofn]; split <;> omega
        have hZ5 : Z ≤ 5 := by omega
        have eP : imin ((e.map byteRow).length : Int) (imax (Int.ofNat 0) n) = ((min e.length i : Nat) : Int) := by rw [eM, imin_d, List.length_map]; split <;> omega
        have hcut : icut (e.map byteRow) (imin ((e.map byteRow).length : Int) (imax (Int.ofNat 0) n)) ((e.map byteRow).length : Int) = some ((e.drop (min e.length i)).map byteRow) := by
          rw [eP, icut_t (by omega) (by rw [List.length_map]; omega) (Int.le_refl _), Int.toNat_natCast, Int.toNat_natCast, List.take_length, List.map_drop]
        have hfin : ∀ (m : List UInt8) (ca : Nat), digsOk m → m.length = (List.replicate Z 0 ++ e.drop (min e.length i)).length → valD m + ca * 10 ^ m.length = valD (List.replicate Z 0 ++ e.drop (min e.length i)) * sc →
            N = W * sc + ca + (if 5 ≤ (m.headD 0).toNat then 1 else 0) := fun m ca h1 h2 h3 => by rw [← hN2, ← hW]; exact rnd_fin hP hZ h1 h2 h3
        clear hw h13
        repeat' ((first | refine vb_t rfl ?_ | refine vb_f rfl ?_ | refine vb_t (by assumption) ?_ | refine vb_f (by assumption) ?_ | refine vor_l ?_ | fail) <;> conv => whnf)
        refine vloop_eq2 (fr' := [(0, .d (.sl 1 (e.map byteRow))), (1, I n), (2, I (sc : Int)), (6, I 0), (7, B false), (8, I (W : Int)), (10, restV none), (60, I (Z : Int)), (61, I ((0 : Nat) : Int))]) (h' := restH 5 none) ?_ rfl ?_
        · exact cons_eq rfl (cons_eq rfl (cons_eq rfl (cons_eq rfl (cons_eq rfl (cons_eq (slot_eq (I_eq (congrArg Int.ofNat hW))) (cons_eq rfl (cons_eq (slot_eq (I_eq eZ)) rfl)))))))
        refine vloop_by (σ := { x : Nat × Option (Nat × List UInt8) // x.1 ≤ Z ∧ bys x.2 = List.replicate x.1 0 })
          (fun x => [(0, .d (.sl 1 (e.map byteRow))), (1, I n), (2, I (sc : Int)), (6, I 0), (7, B false), (8, I (W : Int)), (10, restV x.1.2), (60, I (Z : Int)), (61, I (x.1.1 : Int))])
          (fun x => restH 5 x.1.2) (fun x => Z - x.1.1) ?_ ⟨(0, none), Nat.zero_le _, rfl⟩
        rintro ⟨⟨j, x⟩, hj, hx⟩
        simp only at hj hx
        rcases x with _ | ⟨g, l⟩
        · conv => whnf
          refine vb_i (fun h => ?_) (fun h => ?_) <;> conv => whnf
          · have hjZ : j < Z := by (first | omega | (simp only [ilt_t, ilt_f, ile_t, ile_f, ieq_t, ieq_f, ofn, List.length_map, Bool.not_eq_true', Bool.not_eq_false'] at *; omega))
            have hj0 : j = 0 := by have := congrArg List.length hx; simp [bys] at this; omega
            subst hj0
            repeat' ((first | refine vb_t rfl ?_ | refine vb_f rfl ?_ | refine vb_t (by assumption) ?_ | refine vb_f (by assumption) ?_ | refine vb_t (room_t (by decide)) ?_ | refine vor_l ?_ | fail) <;> conv => whnf)
            exact ⟨⟨(1, some (0, [0])), hjZ, rfl⟩, by simp only; omega,
              cons_eq rfl (cons_eq rfl (cons_eq rfl (cons_eq rfl (cons_eq rfl (cons_eq rfl (cons_eq rfl (cons_eq rfl (cons_eq (slot_eq (I_eq (iadd_one (i := 0) (by omega)))) rfl)))))))), rfl, rfl, rfl⟩
          · have hjZ : j = Z := by (first | omega | (simp only [ilt_t, ilt_f, ile_t, ile_f, ieq_t, ieq_f, ofn, List.length_map, Bool.not_eq_true', Bool.not_eq_false'] at *; omega))
            have hj0 : j = 0 := by have := congrArg List.length hx; simp [bys] at this; omega
            repeat' ((first | refine vb_t rfl ?_ | refine vb_f rfl ?_ | refine vb_t (by assumption) ?_ | refine vb_f (by assumption) ?_ | refine vo_i hcut ?_ | refine vb_t (room_t (by simp <;> omega)) ?_ | refine vor_l ?_ | fail) <;> conv => whnf)
            have hL0 : List.replicate Z 0 ++ e.drop (min e.length i) = e.drop (min e.length i) := by rw [← hjZ, hj0]; rfl
            rw [hL0] at hfin
            have hLd : digsOk (e.drop (min e.length i)) := fun x hx => heg x (List.mem_of_mem_drop hx)
            have hL : (e.drop (min e.length i)).length ≤ 1000006 := by simp only [List.length_append, List.length_drop]; omega
            obtain ⟨g4, hg4⟩ : ∃ g4 : Nat, (0) = g4 := ⟨_, rfl⟩
            refine vloop_eq2 (fr' := [(2, I (sc : Int)), (6, I 0), (7, B false), (8, I (W : Int)), (10, .osl 0 g4 0 (e.drop (min e.length i)).length), (11, I ((0 : Nat) : Int)), (12, I (((e.drop (min e.length i)).length : Int) - 1))]) (h' := [⟨.mine, 5, .arr true g4 1 ((e.drop (min e.length i)).map byteRow)⟩]) ?_ ?_ ?_
            · exact cons_eq rfl (cons_eq rfl (cons_eq rfl (cons_eq rfl (cons_eq (slot_eq (osl_eq hg4 (by simp))) (cons_eq rfl (cons_eq (slot_eq (I_eq (by rw [ofn, isub64] <;> simp at * <;> omega))) rfl))))))
            · exact cons_eq (arr_eq2 hg4 (by simp)) rfl
            generalize (e.drop (min e.length i)) = l4 at hL hfin hLd ⊢
            clear hg4
            have hgg : Nat.beq g4 g4 = true := by simp
            refine vloop_by (σ := { x : List UInt8 × Nat × Nat // x.2.2 ≤ l4.length ∧ x.1.length = l4.length ∧ x.2.1 ≤ 999 ∧ digsOk x.1 ∧ x.1.take x.2.2 = l4.take x.2.2 ∧ valD (x.1.drop x.2.2) + x.2.1 * 10 ^ (l4.length - x.2.2) = valD (l4.drop x.2.2) * sc })
              (fun x => [(2, I (sc : Int)), (6, I 0), (7, B false), (8, I (W : Int)), (10, .osl 0 g4 0 l4.length), (11, I (x.1.2.1 : Int)), (12, I ((x.1.2.2 : Int) - 1))])
              (fun x => [⟨.mine, 5, .arr true g4 1 (x.1.1.map byteRow)⟩]) (fun x => x.1.2.2) ?_ ⟨(l4, 0, l4.length), Nat.le_refl _, rfl, Nat.zero_le _, hLd, rfl, by simp [valD]⟩
            rintro ⟨⟨m, ca, k⟩, hk, hm, hca, hmd, hmt, hmv⟩
            simp only at hk hm hca hmd hmt hmv
            conv => whnf
            refine vb_i (fun h => ?_) (fun h => ?_) <;> conv => whnf
            · have hk1 : 1 ≤ k := by (first | omega | (simp only [ilt_t, ilt_f, ile_t, ile_f, ieq_t, ieq_f, ofn, List.length_map, Bool.not_eq_true', Bool.not_eq_false'] at *; omega))
              obtain ⟨q, rfl⟩ : ∃ q, k = q + 1 := ⟨k - 1, by omega⟩
              have eq1 : ((q + 1 : Nat) : Int) - 1 = (q : Int) := by omega
              obtain ⟨c, hc⟩ : ∃ c, l4[q]? = some c := ⟨l4[q], List.getElem?_eq_getElem (by omega)⟩
              have hcm : m[q]? = some c := by
                have h1 : (m.take (q + 1))[q]? = (l4.take (q + 1))[q]? := by rw [hmt]
                rw [List.getElem?_take, List.getElem?_take, if_pos (by omega), if_pos (by omega)] at h1
                rw [h1, hc]
              have hc9 := hLd c (List.mem_of_getElem? hc)
              have hr : iget (((m.map byteRow).take l4.length).drop 0) ((q + 1 : Nat) - 1 : Int) = some (byteRow c) := by
                rw [eq1]; exact iget_sl (by rw [Nat.zero_add, List.getElem?_map, hcm]; rfl) (by omega)
              have hr2 : (m.map byteRow)[0 + (((q + 1 : Nat) : Int) - 1).toNat]? = some (byteRow c) := by
                rw [eq1, Int.toNat_natCast, Nat.zero_add, List.getElem?_map, hcm]; rfl
              have hcs : c.toNat * sc ≤ 9 * 1000 := Nat.mul_le_mul hc9 hsc
              have e1 : iadd .i64 (imul .i64 (icast .i64 (c.toNat : Int)) (sc : Int)) (ca : Int) = ((c.toNat * sc + ca : Nat) : Int) := by
                rw [icast64 (by omega) (by omega), imul64 (by rw [← Int.natCast_mul]; omega) (by rw [← Int.natCast_mul]; omega), ← Int.natCast_mul, iadd64 (by omega) (by omega)]; omega
              obtain ⟨x, hx⟩ : ∃ x, c.toNat * sc + ca = x := ⟨_, rfl⟩
              rw [hx] at e1
              have hx9 : x ≤ 9999 := by omega
              repeat' ((first | refine vb_t rfl ?_ | refine vb_f rfl ?_ | refine vb_t (by assumption) ?_ | refine vb_f (by assumption) ?_ | refine vo_i hr ?_ | refine vo_i hr2 ?_ | (rw [iz_ten]) | refine vor_l ?_ | fail) <;> conv => whnf)
              refine ⟨⟨(m.set q (UInt8.ofNat (x % 10)), x / 10, q), by show q ≤ l4.length; omega, by rw [List.length_set]; exact hm, by show x / 10 ≤ 999; omega, set_dig hmd (by omega), ?_, ?_⟩, by simp only; omega,
                cons_eq rfl (cons_eq rfl (cons_eq rfl (cons_eq rfl (cons_eq rfl (cons_eq (slot_eq (I_eq ?_)) (cons_eq (slot_eq (I_eq ?_)) rfl)))))), cons_eq (arr_eq ?_) rfl, rfl, rfl⟩
              · show (m.set q (UInt8.ofNat (x % 10))).take q = l4.take q
                rw [set_take]
                have h1 := congrArg (List.take q) hmt
                rwa [List.take_take, List.take_take, Nat.min_eq_left (by omega)] at h1
              · show valD ((m.set q (UInt8.ofNat (x % 10))).drop q) + x / 10 * 10 ^ (l4.length - q) = valD (l4.drop q) * sc
                rw [set_drop (by rw [hm]; exact hk), drop_get1 hc]
                have hl1 : (m.drop (q + 1)).length = l4.length - (q + 1) := by rw [List.length_drop, hm]
                have hl2 : l4.length - q = l4.length - (q + 1) + 1 := by omega
                have h2 := mul_step (c := c.toNat) hmv
                rw [hx] at h2
                simp only [valD, hl1, List.length_drop, of_dig (show x % 10 < 256 by omega)]
                rw [hl2, Nat.pow_succ]
                exact h2
              · show iquo .i64 (iadd .i64 (imul .i64 (icast .i64 (c.toNat : Int)) (sc : Int)) (ca : Int)) (Int.ofNat 10) = ((x / 10 : Nat) : Int)
                rw [e1, g_ofn, g_quo (by omega)]
              · show isub .i64 (((q + 1 : Nat) : Int) - 1) (Int.ofNat 1) = (q : Int) - 1
                rw [eq1, ofn, isub64 (by omega) (by omega)]; rfl
              · show (m.map byteRow).set (0 + (((q + 1 : Nat) : Int) - 1).toNat) [DV.int .u8 (icast .u8 (irem (iadd .i64 (imul .i64 (icast .i64 (c.toNat : Int)) (sc : Int)) (ca : Int)) (Int.ofNat 10)))] = (m.set q (UInt8.ofNat (x % 10))).map byteRow
                rw [eq1, Int.toNat_natCast, Nat.zero_add, e1, g_ofn, u_rem, List.map_set, dig_row (show x % 10 < 256 by omega)]
            · have hk0 : k = 0 := by (first | omega | (simp only [ilt_t, ilt_f, ile_t, ile_f, ieq_t, ieq_f, ofn, List.length_map, Bool.not_eq_true', Bool.not_eq_false'] at *; omega))
              subst hk0
              simp only [List.drop_zero, Nat.sub_zero] at hmv
              have hNe := hfin m ca hmd hm (by rw [hm]; exact hmv)
              have hz : ((l4.length : Int) - ((0 : Nat) : Int)) = l4.length := by omega
              cases m with
              | nil =>
                have q1 : ilt (Int.ofNat 0) ((l4.length : Int) - ((0 : Nat) : Int)) = false := by rw [ilt_f, ← hm, ofn]; simp
                have hWs : W * sc ≤ 9999999999999 * 1000 := Nat.mul_le_mul (by omega) hsc
                have e1 : iadd .i64 (imul .i64 (W : Int) (sc : Int)) (ca : Int) = ((W * sc + ca : Nat) : Int) := by
                  rw [imul64 (by rw [← Int.natCast_mul]; omega) (by rw [← Int.natCast_mul]; omega), ← Int.natCast_mul, iadd64 (by omega) (by omega)]; omega
                repeat' ((first | refine vb_t rfl ?_ | refine vb_f rfl ?_ | refine vb_t (by assumption) ?_ | refine vb_f (by assumption) ?_ | refine vor_l ?_ | fail) <;> conv => whnf)
                refine ⟨(_, _), rfl, rfl, ?_⟩
                have hN0 : N = W * sc + ca := hNe
                show ile (iadd .i64 (imul .i64 (W : Int) (sc : Int)) (ca : Int)) (Int.ofNat 68719476736) = decide (N ≤ 68719476736) ∧ (_ → iadd .i64 (imul .i64 (W : Int) (sc : Int)) (ca : Int) = (N : Nat))
                rw [e1, hN0, ile_d, ofn]
                exact ⟨by rw [decide_eq_decide]; omega, fun _ => rfl⟩
              | cons c m =>
                have q1 : ilt (Int.ofNat 0) ((l4.length : Int) - ((0 : Nat) : Int)) = true := by rw [ilt_t, ← hm, ofn]; simp
                have hr3 : (((c :: m) : List UInt8).map byteRow)[0 + (Int.ofNat 0).toNat]? = some (byteRow c) := rfl
                have hWs : W * sc ≤ 9999999999999 * 1000 := Nat.mul_le_mul (by omega) hsc
                have e1 : iadd .i64 (imul .i64 (W : Int) (sc : Int)) (ca : Int) = ((W * sc + ca : Nat) : Int) := by
                  rw [imul64 (by rw [← Int.natCast_mul]; omega) (by rw [← Int.natCast_mul]; omega), ← Int.natCast_mul, iadd64 (by omega) (by omega)]; omega
                have hr : iget ((((c :: m).map byteRow).take l4.length).drop 0) (Int.ofNat 0) = some (byteRow c) := iget_sl (lo := 0) (hi := l4.length) (i := 0) rfl (by rw [← hm]; simp)
                by_cases h5 : 5 ≤ c.toNat
                · have q3 : ile (Int.ofNat 5) (c.toNat : Int) = true := by rw [ile_t, ofn]; omega
                  have hN0 : N = W * sc + ca + 1 := by rw [hNe]; show _ + (if 5 ≤ c.toNat then 1 else 0) = _; rw [if_pos h5]
                  have e4 : iadd .i64 (iadd .i64 (imul .i64 (W : Int) (sc : Int)) (ca : Int)) (Int.ofNat 1) = ((W * sc + ca + 1 : Nat) : Int) := by rw [e1]; exact iadd_one (by omega)
                  repeat' ((first | refine vb_t rfl ?_ | refine vb_f rfl ?_ | refine vb_t (by assumption) ?_ | refine vb_f (by assumption) ?_ | refine vo_i hr ?_ | refine vo_i hr3 ?_ | refine vor_l ?_ | fail) <;> conv => whnf)
                  refine ⟨(_, _), rfl, rfl, ?_⟩
                  show ile (iadd .i64 (iadd .i64 (imul .i64 (W : Int) (sc : Int)) (ca : Int)) (Int.ofNat 1)) (Int.ofNat 68719476736) = decide (N ≤ 68719476736) ∧ (_ → iadd .i64 (iadd .i64 (imul .i64 (W : Int) (sc : Int)) (ca : Int)) (Int.ofNat 1) = (N : Nat))
                  rw [e4, hN0, ile_d, ofn]
                  exact ⟨by rw [decide_eq_decide]; omega, fun _ => rfl⟩
                · have q3 : ile (Int.ofNat 5) (c.toNat : Int) = false := by rw [ile_f, ofn]; omega
                  have hN0 : N = W * sc + ca := by rw [hNe]; show _ + (if 5 ≤ c.toNat then 1 else 0) = _; rw [if_neg h5]; rfl
                  repeat' ((first | refine vb_t rfl ?_ | refine vb_f rfl ?_ | refine vb_t (by assumption) ?_ | refine vb_f (by assumption) ?_ | refine vo_i hr ?_ | refine vo_i hr3 ?_ | refine vor_l ?_ | fail) <;> conv => whnf)
                  refine ⟨(_, _), rfl, rfl, ?_⟩
                  show ile (iadd .i64 (imul .i64 (W : Int) (sc : Int)) (ca : Int)) (Int.ofNat 68719476736) = decide (N ≤ 68719476736) ∧ (_ → iadd .i64 (imul .i64 (W : Int) (sc : Int)) (ca : Int) = (N : Nat))
                  rw [e1, hN0, ile_d, ofn]
                  exact ⟨by rw [decide_eq_decide]; omega, fun _ => rfl⟩
        · have hll : l.length = j := by have := congrArg List.length hx; simpa [bys] using this
          conv => whnf
          refine vb_i (fun h => ?_) (fun h => ?_) <;> conv => whnf
          · have hjZ : j < Z := by (first | omega | (simp only [ilt_t, ilt_f, ile_t, ile_f, ieq_t, ieq_f, ofn, List.length_map, Bool.not_eq_true', Bool.not_eq_false'] at *; omega))
            have hg : Nat.beq g g = true := by simp
            have hq : ieq (l.length : Int) ((l.map byteRow).length : Int) = true := by rw [ieq_t]; simp
            repeat' ((first | refine vb_t rfl ?_ | refine vb_f rfl ?_ | refine vb_t (by assumption) ?_ | refine vb_f (by assumption) ?_ | refine vb_t (room_t (by simp <;> omega)) ?_ | refine vor_l ?_ | fail) <;> conv => whnf)
            refine ⟨⟨(j + 1, some (g + 1, l ++ [0])), hjZ, ?_⟩, by simp only; omega,
              cons_eq rfl (cons_eq rfl (cons_eq rfl (cons_eq rfl (cons_eq rfl (cons_eq rfl (cons_eq (slot_eq (osl_eq rfl (by simp))) (cons_eq rfl (cons_eq (slot_eq (I_eq (iadd_one (i := j) (by omega)))) rfl)))))))), cons_eq (arr_eq (by simp; rfl)) rfl, rfl, rfl⟩
            show l ++ [0] = List.replicate (j + 1) 0
            have hx2 : l = List.replicate j 0 := hx
            rw [hx2, List.replicate_succ']
          · have hjZ : j = Z := by (first | omega | (simp only [ilt_t, ilt_f, ile_t, ile_f, ieq_t, ieq_f, ofn, List.length_map, Bool.not_eq_true', Bool.not_eq_false'] at *; omega))
            have hg : Nat.beq g g = true := by simp
            have hq : ieq (l.length : Int) ((l.map byteRow).length : Int) = true := by rw [ieq_t]; simp
            repeat' ((first | refine vb_t rfl ?_ | refine vb_f rfl ?_ | refine vb_t (by assumption) ?_ | refine vb_f (by assumption) ?_ | refine vo_i hcut ?_ | refine vb_t (room_t (by simp <;> omega)) ?_ | refine vor_l ?_ | fail) <;> conv => whnf)
            have hx2 : l = List.replicate Z 0 := by rw [← hjZ]; exact hx
            rw [← hx2] at hfin
            have hLd : digsOk (l ++ e.drop (min e.length i)) := digsOk_append (by rw [hx2]; intro c hc; rw [List.eq_of_mem_replicate hc]; decide) fun x hx => heg x (List.mem_of_mem_drop hx)
            have hL : (l ++ e.drop (min e.length i)).length ≤ 1000006 := by simp only [List.length_append, List.length_drop]; omega
            obtain ⟨g4, hg4⟩ : ∃ g4 : Nat, (g + 1) = g4 := ⟨_, rfl⟩
            refine vloop_eq2 (fr' := [(2, I (sc : Int)), (6, I 0), (7, B false), (8, I (W : Int)), (10, .osl 0 g4 0 (l ++ e.drop (min e.length i)).length), (11, I ((0 : Nat) : Int)), (12, I (((l ++ e.drop (min e.length i)).length : Int) - 1))]) (h' := [⟨.mine, 5, .arr true g4 1 ((l ++ e.drop (min e.length i)).map byteRow)⟩]) ?_ ?_ ?_
            · exact cons_eq rfl (cons_eq rfl (cons_eq rfl (cons_eq rfl (cons_eq (slot_eq (osl_eq hg4 (by simp))) (cons_eq rfl (cons_eq (slot_eq (I_eq (by rw [ofn, isub64] <;> simp at * <;> omega))) rfl))))))
            · exact cons_eq (arr_eq2 hg4 (by simp)) rfl
            generalize (l ++ e.drop (min e.length i)) = l4 at hL hfin hLd ⊢
            clear hg4
            have hgg : Nat.beq g4 g4 = true := by simp
            refine vloop_by (σ := { x : List UInt8 × Nat × Nat // x.2.2 ≤ l4.length ∧ x.1.length = l4.length ∧ x.2.1 ≤ 999 ∧ digsOk x.1 ∧ x.1.take x.2.2 = l4.take x.2.2 ∧ valD (x.1.drop x.2.2) + x.2.1 * 10 ^ (l4.length - x.2.2) = valD (l4.drop x.2.2) * sc })
              (fun x => [(2, I (sc : Int)), (6, I 0), (7, B false), (8, I (W : Int)), (10, .osl 0 g4 0 l4.length), (11, I (x.1.2.1 : Int)), (12, I ((x.1.2.2 : Int) - 1))])
              (fun x => [⟨.mine, 5, .arr true g4 1 (x.1.1.map byteRow)⟩]) (fun x => x.1.2.2) ?_ ⟨(l4, 0, l4.length), Nat.le_refl _, rfl, Nat.zero_le _, hLd, rfl, by simp [valD]⟩
            rintro ⟨⟨m, ca, k⟩, hk, hm, hca, hmd, hmt, hmv⟩
            simp only at hk hm hca hmd hmt hmv
            conv => whnf
            refine vb_i (fun h => ?_) (fun h => ?_) <;> conv => whnf
            · have hk1 : 1 ≤ k := by (first | omega | (simp only [ilt_t, ilt_f, ile_t, ile_f, ieq_t, ieq_f, ofn, List.length_map, Bool.not_eq_true', Bool.not_eq_false'] at *; omega))
              obtain ⟨q, rfl⟩ : ∃ q, k = q + 1 := ⟨k - 1, by omega⟩
              have eq1 : ((q + 1 : Nat) : Int) - 1 = (q : Int) := by omega
              obtain ⟨c, hc⟩ : ∃ c, l4[q]? = some c := ⟨l4[q], List.getElem?_eq_getElem (by omega)⟩
              have hcm : m[q]? = some c := by
                have h1 : (m.take (q + 1))[q]? = (l4.take (q + 1))[q]? := by rw [hmt]
                rw [List.getElem?_take, List.getElem?_take, if_pos (by omega), if_pos (by omega)] at h1
                rw [h1, hc]
              have hc9 := hLd c (List.mem_of_getElem? hc)
              have hr : iget (((m.map byteRow).take l4.length).drop 0) ((q + 1 : Nat) - 1 : Int) = some (byteRow c) := by
                rw [eq1]; exact iget_sl (by rw [Nat.zero_add, List.getElem?_map, hcm]; rfl) (by omega)
              have hr2 : (m.map byteRow)[0 + (((q + 1 : Nat) : Int) - 1).toNat]? = some (byteRow c) := by
                rw [eq1, Int.toNat_natCast, Nat.zero_add, List.getElem?_map, hcm]; rfl
              have hcs : c.toNat * sc ≤ 9 * 1000 := Nat.mul_le_mul hc9 hsc
              have e1 : iadd .i64 (imul .i64 (icast .i64 (c.toNat : Int)) (sc : Int)) (ca : Int) = ((c.toNat * sc + ca : Nat) : Int) := by
                rw [icast64 (by omega) (by omega), imul64 (by rw [← Int.natCast_mul]; omega) (by rw [← Int.natCast_mul]; omega), ← Int.natCast_mul, iadd64 (by omega) (by omega)]; omega
              obtain ⟨x, hx⟩ : ∃ x, c.toNat * sc + ca = x := ⟨_, rfl⟩
              rw [hx] at e1
              have hx9 : x ≤ 9999 := by omega
              repeat' ((first | refine vb_t rfl ?_ | refine vb_f rfl ?_ | refine vb_t (by assumption) ?_ | refine vb_f (by assumption) ?_ | refine vo_i hr ?_ | refine vo_i hr2 ?_ | (rw [iz_ten]) | refine vor_l ?_ | fail) <;> conv => whnf)
              refine ⟨⟨(m.set q (UInt8.ofNat (x % 10)), x / 10, q), by show q ≤ l4.length; omega, by rw [List.length_set]; exact hm, by show x / 10 ≤ 999; omega, set_dig hmd (by omega), ?_, ?_⟩, by simp only; omega,
                cons_eq rfl (cons_eq rfl (cons_eq rfl (cons_eq rfl (cons_eq rfl (cons_eq (slot_eq (I_eq ?_)) (cons_eq (slot_eq (I_eq ?_)) rfl)))))), cons_eq (arr_eq ?_) rfl, rfl, rfl⟩
              · show (m.set q (UInt8.ofNat (x % 10))).take q = l4.take q
                rw [set_take]
                have h1 := congrArg (List.take q) hmt
                rwa [List.take_take, List.take_take, Nat.min_eq_left (by omega)] at h1
              · show valD ((m.set q (UInt8.ofNat (x % 10))).drop q) + x / 10 * 10 ^ (l4.length - q) = valD (l4.drop q) * sc
                rw [set_drop (by rw [hm]; exact hk), drop_get1 hc]
                have hl1 : (m.drop (q + 1)).length = l4.length - (q + 1) := by rw [List.length_drop, hm]
                have hl2 : l4.length - q = l4.length - (q + 1) + 1 := by omega
                have h2 := mul_step (c := c.toNat) hmv
                rw [hx] at h2
                simp only [valD, hl1, List.length_drop, of_dig (show x % 10 < 256 by omega)]
                rw [hl2, Nat.pow_succ]
                exact h2
              · show iquo .i64 (iadd .i64 (imul .i64 (icast .i64 (c.toNat : Int)) (sc : Int)) (ca : Int)) (Int.ofNat 10) = ((x / 10 : Nat) : Int)
                rw [e1, g_ofn, g_quo (by omega)]
              · show isub .i64 (((q + 1 : Nat) : Int) - 1) (Int.ofNat 1) = (q : Int) - 1
                rw [eq1, ofn, isub64 (by omega) (by omega)]; rfl
              · show (m.map byteRow).set (0 + (((q + 1 : Nat) : Int) - 1).toNat) [DV.int .u8 (icast .u8 (irem (iadd .i64 (imul .i64 (icast .i64 (c.toNat : Int)) (sc : Int)) (ca : Int)) (Int.ofNat 10)))] = (m.set q (UInt8.ofNat (x % 10))).map byteRow
                rw [eq1, Int.toNat_natCast, Nat.zero_add, e1, g_ofn, u_rem, List.map_set, dig_row (show x % 10 < 256 by omega)]
            · have hk0 : k = 0 := by (first | omega | (simp only [ilt_t, ilt_f, ile_t, ile_f, ieq_t, ieq_f, ofn, List.length_map, Bool.not_eq_true', Bool.not_eq_false'] at *; omega))
              subst hk0
              simp only [List.drop_zero, Nat.sub_zero] at hmv
              have hNe := hfin m ca hmd hm (by rw [hm]; exact hmv)
              have hz : ((l4.length : Int) - ((0 : Nat) : Int)) = l4.length := by omega
              cases m with
              | nil =>
                have q1 : ilt (Int.ofNat 0) ((l4.length : Int) - ((0 : Nat) : Int)) = false := by rw [ilt_f, ← hm, ofn]; simp
                have hWs : W * sc ≤ 9999999999999 * 1000 := Nat.mul_le_mul (by omega) hsc
                have e1 : iadd .i64 (imul .i64 (W : Int) (sc : Int)) (ca : Int) = ((W * sc + ca : Nat) : Int) := by
                  rw [imul64 (by rw [← Int.natCast_mul]; omega) (by rw [← Int.natCast_mul]; omega), ← Int.natCast_mul, iadd64 (by omega) (by omega)]; omega
                repeat' ((first | refine vb_t rfl ?_ | refine vb_f rfl ?_ | refine vb_t (by assumption) ?_ | refine vb_f (by assumption) ?_ | refine vor_l ?_ | fail) <;> conv => whnf)
                refine ⟨(_, _), rfl, rfl, ?_⟩
                have hN0 : N = W * sc + ca := hNe
                show ile (iadd .i64 (imul .i64 (W : Int) (sc : Int)) (ca : Int)) (Int.ofNat 68719476736) = decide (N ≤ 68719476736) ∧ (_ → iadd .i64 (imul .i64 (W : Int) (sc : Int)) (ca : Int) = (N : Nat))
                rw [e1, hN0, ile_d, ofn]
                exact ⟨by rw [decide_eq_decide]; omega, fun _ => rfl⟩
              | cons c m =>
                have q1 : ilt (Int.ofNat 0) ((l4.length : Int) - ((0 : Nat) : Int)) = true := by rw [ilt_t, ← hm, ofn]; simp
                have hr3 : (((c :: m) : List UInt8).map byteRow)[0 + (Int.ofNat 0).toNat]? = some (byteRow c) := rfl
                have hWs : W * sc ≤ 9999999999999 * 1000 := Nat.mul_le_mul (by omega) hsc
                have e1 : iadd .i64 (imul .i64 (W : Int) (sc : Int)) (ca : Int) = ((W * sc + ca : Nat) : Int) := by
                  rw [imul64 (by rw [← Int.natCast_mul]; omega) (by rw [← Int.natCast_mul]; omega), ← Int.natCast_mul, iadd64 (by omega) (by omega)]; omega
                have hr : iget ((((c :: m).map byteRow).take l4.length).drop 0) (Int.ofNat 0) = some (byteRow c) := iget_sl (lo := 0) (hi := l4.length) (i := 0) rfl (by rw [← hm]; simp)
                by_cases h5 : 5 ≤ c.toNat
                · have q3 : ile (Int.ofNat 5) (c.toNat : Int) = true := by rw [ile_t, ofn]; omega
                  have hN0 : N = W * sc + ca + 1 := by rw [hNe]; show _ + (if 5 ≤ c.toNat then 1 else 0) = _; rw [if_pos h5]
                  have e4 : iadd .i64 (iadd .i64 (imul .i64 (W : Int) (sc : Int)) (ca : Int)) (Int.ofNat 1) = ((W * sc + ca + 1 : Nat) : Int) := by rw [e1]; exact iadd_one (by omega)
                  repeat' ((first | refine vb_t rfl ?_ | refine vb_f rfl ?_ | refine vb_t (by assumption) ?_ | refine vb_f (by assumption) ?_ | refine vo_i hr ?_ | refine vo_i hr3 ?_ | refine vor_l ?_ | fail) <;> conv => whnf)
                  refine ⟨(_, _), rfl, rfl, ?_⟩
                  show ile (iadd .i64 (iadd .i64 (imul .i64 (W : Int) (sc : Int)) (ca : Int)) (Int.ofNat 1)) (Int.ofNat 68719476736) = decide (N ≤ 68719476736) ∧ (_ → iadd .i64 (iadd .i64 (imul .i64 (W : Int) (sc : Int)) (ca : Int)) (Int.ofNat 1) = (N : Nat))
                  rw [e4, hN0, ile_d, ofn]
                  exact ⟨by rw [decide_eq_decide]; omega, fun _ => rfl⟩
                · have q3 : ile (Int.ofNat 5) (c.toNat : Int) = false := by rw [ile_f, ofn]; omega
                  have hN0 : N = W * sc + ca := by rw [hNe]; show _ + (if 5 ≤ c.toNat then 1 else 0) = _; rw [if_neg h5]; rfl
                  repeat' ((first | refine vb_t rfl ?_ | refine vb_f rfl ?_ | refine vb_t (by assumption) ?_ | refine vb_f (by assumption) ?_ | refine vo_i hr ?_ | refine vo_i hr3 ?_ | refine vor_l ?_ | fail) <;> conv => whnf)
                  refine ⟨(_, _), rfl, rfl, ?_⟩
                  show ile (iadd .i64 (imul .i64 (W : Int) (sc : Int)) (ca : Int)) (Int.ofNat 68719476736) = decide (N ≤ 68719476736) ∧ (_ → iadd .i64 (imul .i64 (W : Int) (sc : Int)) (ca : Int) = (N : Nat))
                  rw [e1, hN0, ile_d, ofn]
                  exact ⟨by rw [decide_eq_decide]; omega, fun _ => rfl⟩
end Go.Proofs.YtjeblkicgmmhiaaGreatDoor.Ab

