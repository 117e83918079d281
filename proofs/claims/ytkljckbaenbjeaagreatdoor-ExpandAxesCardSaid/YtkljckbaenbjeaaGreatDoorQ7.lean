/- Some texts as one, one behind the other; what is not leaned on is left out. -/
import Derived.Test.YtkljckbaenbjeaaGreatDoorQ4
import Derived.Test.YtkljckbaenbjeaaGreatDoorQ6
import Derived.Test.YtkljckbaenbjeaaGreatDoorQ5
import Derived.Test.YtkljckbaenbjeaaGreatDoorC00q
import Derived.Test.YtkljckbaenbjeaaGreatDoorQ1
set_option linter.unusedSimpArgs false
set_option linter.unusedVariables false
namespace Go.Proofs.YtkljckbaenbjeaaGreatDoor.Ab
open Go
set_option linter.unusedSimpArgs false
set_option linter.unusedVariables false
theorem ieqs (a : Int) : ieq a a = true := by rw [ieq_t]
def tmN (n : Int) (p : Pc) : Nat := (if p.kind = 3 then p.count else n).toNat
def repL (m : Nat) (L : List Pc) : List Pc := match m with
 | 0 => []
 | m + 1 => repL m L ++ L
def itP (n : Int) (p : Pc) : List Pc := if p.kind = 1 ∨ p.kind = 2 then [p] else repL (tmN n p) p.inner
def ax0 : AxS := ⟨[[]], [], 0, 0⟩
def axP (n : Int) (x : AxS × Int × Int) (p : Pc) : AxS × Int × Int :=
 ((itP n p).foldl layQ x.1, if p.kind = 5 then ((x.1.ts.length : Int), (((itP n p).foldl layQ x.1).ts.length : Int)) else x.2)
def axF (n : Int) (l : List Pc) : AxS × Int × Int := l.foldl (axP n) (ax0, 0, 0)
theorem repL_foldl {m : Nat} {L : List Pc} {s : AxS} : (repL (m + 1) L).foldl layQ s = L.foldl layQ ((repL m L).foldl layQ s) := by
 show (repL m L ++ L).foldl layQ s = _
 rw [List.foldl_append]
theorem repL_mem {m : Nat} {L : List Pc} {q : Pc} (h : q ∈ repL m L) : q ∈ L := by
 induction m with
 | zero => cases h
 | succ m ih =>
  rcases List.mem_append.1 h with h | h
  · exact ih h
  · exact h
theorem repL_len {m : Nat} {L : List Pc} : (repL m L).length = m * L.length := by
 induction m with
 | zero => simp [repL]
 | succ m ih => show (repL m L ++ L).length = _; rw [List.length_append, ih, Nat.succ_mul]
theorem layQ_mono {s : AxS} {q : Pc} : s.ts.length ≤ (layQ s q).ts.length := by
 unfold layQ
 split
 · exact Nat.le_refl _
 · simp
theorem lay_mono {L : List Pc} : ∀ {s : AxS}, s.ts.length ≤ (L.foldl layQ s).ts.length := by
 induction L with
 | nil => intro s; exact Nat.le_refl _
 | cons q L ih => intro s; exact Nat.le_trans layQ_mono ih
theorem rep_mono {a b : Nat} {L : List Pc} {s : AxS} (h : a ≤ b) : ((repL a L).foldl layQ s).ts.length ≤ ((repL b L).foldl layQ s).ts.length := by
 induction b with
 | zero => obtain rfl : a = 0 := by omega
           exact Nat.le_refl _
 | succ b ih =>
  rcases Nat.lt_or_ge a (b + 1) with h1 | h1
  · rw [repL_foldl]
    exact Nat.le_trans (ih (by omega)) lay_mono
  · obtain rfl : a = b + 1 := by omega
    exact Nat.le_refl _
theorem axP_mono {n : Int} {x : AxS × Int × Int} {p : Pc} : x.1.ts.length ≤ (axP n x p).1.ts.length := lay_mono
theorem axP_monoL {n : Int} : ∀ {l : List Pc} {x : AxS × Int × Int}, x.1.ts.length ≤ (l.foldl (axP n) x).1.ts.length
 | [], x => Nat.le_refl _
 | p :: l, x => Nat.le_trans (axP_mono (n := n) (p := p)) axP_monoL
theorem axF_take {n : Int} {l : List Pc} {k : Nat} : (axF n (l.take k)).1.ts.length ≤ (axF n l).1.ts.length := by
 have h : axF n l = (l.drop k).foldl (axP n) (axF n (l.take k)) := by
  unfold axF
  rw [← List.foldl_append, List.take_append_drop]
 rw [h]
 exact axP_monoL
theorem axF_succ {n : Int} {l : List Pc} {k : Nat} {p : Pc} (h : l[k]? = some p) : axF n (l.take (k + 1)) = axP n (axF n (l.take k)) p := foldl_succ h
theorem lay_track {L : List Pc} {s : AxS} (h : ∃ q ∈ L, q.kind ≠ 1) : (L.foldl layQ s).ts ≠ [] := by
 induction L generalizing s with
 | nil => obtain ⟨q, hq, _⟩ := h; cases hq
 | cons p L ih =>
  obtain ⟨q, hq, hk⟩ := h
  rcases List.mem_cons.1 hq with rfl | hq
  · intro he
    have h1 : (layQ s q).ts.length ≤ (L.foldl layQ (layQ s q)).ts.length := lay_mono
    rw [List.foldl_cons] at he
    rw [he] at h1
    unfold layQ at h1
    rw [if_neg hk] at h1
    simp at h1
  · exact ih ⟨q, hq, hk⟩
theorem lay_ne {L : List Pc} {s : AxS} (h : s.ts ≠ []) : (L.foldl layQ s).ts ≠ [] := fun he => by
 have h1 := lay_mono (L := L) (s := s)
 rw [he] at h1
 exact h (List.length_eq_zero_iff.1 (Nat.le_zero.1 h1))
theorem good_lay {l : List Pc} (hG : GoodP l) (hall : ∀ p ∈ l, PcOk p) : ∀ p ∈ l, LayP p ∧ (∀ q ∈ p.inner, LayP q) ∧ p.inner.length ≤ 256 ∧ (¬ (p.kind = 1 ∨ p.kind = 2) → RepK p.kind ∧ ∃ q ∈ p.inner, q.kind ≠ 1) := by
 intro p hp
 have hpo := hall p hp
 rcases hG with rfl | ⟨h1, h2, h3, _⟩
 · cases hp
 have hal : ∀ q, AloneP q → PcOk q → LayP q := fun q ha ho => ⟨ho, fun hk => by
  rcases ha with ⟨_, hn, _⟩ | ⟨h, _⟩ | ⟨h, _⟩ | ⟨h, _⟩
  · exact ⟨fun e => by have := hn.1; rw [e] at this; simp at this, hn.2.1⟩
  · omega
  · omega
  · unfold AutoK at h; omega⟩
 obtain ⟨i, hi⟩ := List.getElem?_of_mem hp
 have ha := (h1.1 i p hi).1
 have hr : ¬ (p.kind = 1 ∨ p.kind = 2) → RepK p.kind := fun hk => by
  rcases ha with ⟨h, _⟩ | ⟨h, _⟩ | ⟨h, _⟩ | ⟨h, _⟩
  · exact (hk (.inl h)).elim
  · exact (hk (.inr h)).elim
  · exact .inl h
  · exact .inr h
 have hin : ∀ q ∈ p.inner, PcOk q := by cases hpo with | mk hn hi h => exact h
 refine ⟨hal p ha hpo, fun q hq => ?_, ?_, fun hk => ⟨hr hk, ?_⟩⟩
 · by_cases hk : RepK p.kind
   · obtain ⟨j, hj⟩ := List.getElem?_of_mem hq
     exact hal q ((h2 p hp hk).1 j q hj).1 (hin q hq)
   · rw [alone_inner ha hk] at hq; cases hq
 · by_cases hk : RepK p.kind
   · exact (h2 p hp hk).2.2
   · rw [alone_inner ha hk]; simp
 · obtain ⟨j, q, hj, hk1⟩ := (h2 p hp (hr hk)).2.1
   exact ⟨q, List.mem_of_getElem? hj, hk1⟩
theorem count0 {p : Pc} (ha : AloneP p) (hk : p.kind = 1 ∨ p.kind = 2) : p.count = 0 := by
 rcases ha with ⟨_, _, _, _, h⟩ | ⟨_, _, _, _, h⟩ | ⟨h, _⟩ | ⟨h, _⟩
 · exact h
 · exact h
 · omega
 · unfold AutoK at h; omega
theorem tmN_le {n : Int} {p : Pc} (ha : AloneP p) (hn : n ≤ 10000) : tmN n p ≤ 10000 := by
 unfold tmN
 split
 · rename_i h3
   rcases ha with ⟨h, _⟩ | ⟨h, _⟩ | ⟨_, _, h, _⟩ | ⟨h, _⟩
   · omega
   · omega
   · omega
   · unfold AutoK at h; omega
 · omega
def axA (x : AxS × Int × Int) : AV := if x.1.ts.length ≤ 10000 then .tup [.agg [.d (.sl 1 (x.1.ls.map lnRow)), .d (tsW x.1.ts), I x.2.1, I x.2.2], I 0] else .tup [.agg [.d .nilsl, .d .nilsl, I 0, I 0], I 52]
end Go.Proofs.YtkljckbaenbjeaaGreatDoor.Ab
namespace Go.Proofs.YtkljckbaenbjeaaGreatDoor.Ab
open Go
set_option linter.unusedSimpArgs false
set_option maxRecDepth 100000
set_option linter.unusedVariables false
set_option maxHeartbeats 8000000
def ax0O : Obj := axO (.d .nilsl) (.d .nilsl) 0 0
def liH (s : AxS) : Heap := match s.ts with
 | [] => [lnO s.gl s.ls]
 | t :: r => [lnO s.gl s.ls, trO s.gt (t :: r)]
def liA (s : AxS) (fr to : Int) : AV := match s.ts with
 | [] => .agg [.osl 0 s.gl 0 s.ls.length, .d .nilsl, I fr, I to]
 | t :: r => .agg [.osl 0 s.gl 0 s.ls.length, .osl 1 s.gt 0 (t :: r).length, I fr, I to]
def l0H (fr to : Int) (s : AxS) : Heap := match s.ts with
 | [] => [lnO s.gl s.ls, axO (.osl 0 s.gl 0 s.ls.length) (.d .nilsl) fr to, ax0O]
 | t :: r => [lnO s.gl s.ls, axO (.osl 0 s.gl 0 s.ls.length) (.osl 3 s.gt 0 (t :: r).length) fr to, ax0O, trO s.gt (t :: r)]
def l1H (fr to : Int) (s : AxS) : Heap := [lnO s.gl s.ls, trO s.gt s.ts, axO (.osl 0 s.gl 0 s.ls.length) (.osl 1 s.gt 0 s.ts.length) fr to, ax0O]
def lrH (b : Bool) (fr to : Int) (s : AxS) : Heap := match b, s.ts with
 | true, ts => [lnO s.gl s.ls, trO s.gt ts, axO (.osl 0 s.gl 0 s.ls.length) (.osl 1 s.gt 0 ts.length) fr to, axO (.osl 0 s.gl 0 s.ls.length) (.osl 1 s.gt 0 ts.length) fr to]
 | false, [] => [lnO s.gl s.ls, axO (.osl 0 s.gl 0 s.ls.length) (.d .nilsl) fr to, axO (.osl 0 s.gl 0 s.ls.length) (.d .nilsl) fr to]
 | false, t :: r => [lnO s.gl s.ls, axO (.osl 0 s.gl 0 s.ls.length) (.osl 3 s.gt 0 (t :: r).length) fr to, axO (.osl 0 s.gl 0 s.ls.length) (.osl 3 s.gt 0 (t :: r).length) fr to, trO s.gt (t :: r)]
def lrA (b : Bool) (fr to : Int) (s : AxS) : AV := match b, s.ts with
 | true, ts => .agg [.osl 0 s.gl 0 s.ls.length, .osl 1 s.gt 0 ts.length, I fr, I to]
 | false, [] => .agg [.osl 0 s.gl 0 s.ls.length, .d .nilsl, I fr, I to]
 | false, t :: r => .agg [.osl 0 s.gl 0 s.ls.length, .osl 3 s.gt 0 (t :: r).length, I fr, I to]
def hasT (s : AxS) : Bool := match s.ts with
 | [] => false
 | _ :: _ => true
theorem lay_set2 {ls : List (List (List UInt8))} {y names : List (List UInt8)} {r : List (List DV)} (hn : nmW (y ++ names) = .sl 1 ((y ++ names).map wsRow)) (e1 : isub .i64 ((ls.length : Int) - ((0 : Nat) : Int)) (Int.ofNat 1) = ((ls.length - 1 : Nat) : Int)) (hr : r = (y ++ names).map wsRow) :
 (ls.map lnRow).set (0 + (isub .i64 ((ls.length : Int) - ((0 : Nat) : Int)) (Int.ofNat 1)).toNat) [DV.sl 1 r] = (ls.set (ls.length - 1) (y ++ names)).map lnRow := by
 rw [hr]
 exact lay_set hn e1
theorem rlaid_ok (L : List Pc) (hL : ∀ q ∈ L, LayP q) (s0 : AxS) (c : Nat) (h0 : AxB c s0) (hc : c + L.length ≤ 1000000000) (fr to : Int) :
 CallsTo F0 18 [liA s0 fr to, .d (.sl 11 (L.map pcRow))] (liH s0) .no ⟨.ret (lrA (hasT s0) fr to (L.foldl layQ s0)), lrH (hasT s0) fr to (L.foldl layQ s0), .no⟩ := by
 refine calls_code code18_ok ?_
 rcases hs0 : s0 with ⟨ls0, _ | ⟨t0, ts0⟩, gl0, gt0⟩
 · conv => whnf
   repeat' ((first | refine bt ?_ | refine bf ?_ | refine vl ?_ | fail) <;> conv => whnf)
   refine vloop_cnh (α := Unit) L.length (fun k _ => AxB (c + k) ((L.take k).foldl layQ s0) ∧ LayT false ((L.take k).foldl layQ s0)) (fun k _ => [(5, I (k : Int))]) (fun k _ => l0H fr to ((L.take k).foldl layQ s0)) () ⟨h0, (fun h => by cases h)⟩ rfl (by rw [hs0]; rfl) ?_
   intro k _ hk hI
   rcases Nat.lt_or_ge k L.length with hlt | hge
   · obtain ⟨q, hq⟩ := get_in hlt
     have hg := iget_map (f := pcRow) hq
     have hl := lt_len (f := pcRow) hlt
     have hLq := hL q (List.mem_of_getElem? hq)
     have hS := foldl_succ (f := layQ) (s := s0) hq
     have hB := axB_lay hI.1 hLq
     obtain ⟨⟨b1, b2, b3⟩, hN⟩ := hI
     generalize (L.take k).foldl layQ s0 = s at *
     rcases s with ⟨ls, ts, gl, gt⟩
     have hgl : Nat.beq gl gl = true := by simp
     have hgt : Nat.beq gt gt = true := by simp
     simp only at b1 b2 b3
     obtain ⟨y, hy⟩ := get_in (l := ls) (k := ls.length - 1) (by omega)
     have hyl := b3 y (List.mem_of_getElem? hy)
     have e1 : isub .i64 ((ls.length : Int) - ((0 : Nat) : Int)) (Int.ofNat 1) = ((ls.length - 1 : Nat) : Int) := by rw [isub64 (by rw [o1']; omega) (by rw [o1']; omega), o1']; omega
     by_cases hk1 : q.kind = 1
     · have hS2 : layQ ⟨ls, ts, gl, gt⟩ q = ⟨ls.set (ls.length - 1) (y ++ q.names), ts, gl, gt⟩ := by
        unfold layQ
        rw [if_pos hk1]
        simp only [hy, Option.getD_some]
       obtain ⟨hn0, hn16⟩ := hLq.2 hk1
       have hnw : nmW (y ++ q.names) = .sl 1 ((y ++ q.names).map wsRow) := nmW_ne (by simp [hn0])
       have hgi : iget (((ls.map lnRow).take ls.length).drop 0) (isub .i64 ((ls.length : Int) - ((0 : Nat) : Int)) (Int.ofNat 1)) = some (lnRow y) := by
        rw [List.drop_zero, List.take_of_length_le (by simp), e1]; exact iget_map hy
       have hgr : (ls.map lnRow)[0 + (isub .i64 ((ls.length : Int) - ((0 : Nat) : Int)) (Int.ofNat 1)).toNat]? = some (lnRow y) := by
        rw [e1, Nat.zero_add, Int.toNat_natCast, List.getElem?_map, hy]; rfl
       have hPo := hLq.1
       cases hPo with
       | @mk kd vn names t cn vi inner hvn hvi hin =>
       simp only [Pc.names, Pc.kind] at hn0 hn16 hk1 hnw hS2
       have q1 : ieq kd (Int.ofNat 1) = true := by rw [ieq_t]; exact hk1
       rcases hvn with ⟨rfl, hvn⟩ | rfl
       · exact (hn0 (List.map_eq_nil_iff.1 hvn)).elim
       have z00 : ieq ((0 : Nat) : Int) ((0 : Nat) : Int) = true := by rw [ieq_t]
       rcases ts with _ | ⟨t1, ts⟩
       · rcases y with _ | ⟨y0, y⟩
         · conv => whnf
           repeat' ((first | refine bt ?_ | refine bf ?_ | refine vo_i hg ?_ | refine vo_i hgi ?_ | refine vo_i hgr ?_ | refine vb_t (ieqs _) ?_ | refine vb_t (by rw [ieq_t]; simp) ?_ | refine vb_t (room_t (by simp only [List.length_map, List.length_cons, List.length_nil, List.length_append, List.length_replicate] at * <;> omega)) ?_ | refine vl ?_ | fail) <;> conv => whnf)
           exact ⟨⟨(k + 1, ()), (by omega), ⟨by rw [hS]; exact hB, by rw [hS, hS2]; exact hN⟩⟩, (by simp only; omega), (by repeat' (first | exact rfl | exact slot_eq (I_eq (iadd_one (by omega))) | (refine cons_eq ?_ ?_) | assumption)), Eq.trans (by repeat' (first | exact rfl | refine cons_eq ?_ ?_ | refine fix_eq ?_ | exact osl_eq rfl (by simp) | exact arr_eq2 rfl (lay_set2 hnw e1 (by simp; rw [List.take_of_length_le (by simp <;> omega)])))) (congrArg (l0H fr to) (hS.trans hS2).symm), rfl, rfl⟩
         · conv => whnf
           repeat' ((first | refine bt ?_ | refine bf ?_ | refine vo_i hg ?_ | refine vo_i hgi ?_ | refine vo_i hgr ?_ | refine vb_t (ieqs _) ?_ | refine vb_t (by rw [ieq_t]; simp) ?_ | refine vb_t (room_t (by simp only [List.length_map, List.length_cons, List.length_nil, List.length_append, List.length_replicate] at * <;> omega)) ?_ | refine vl ?_ | fail) <;> conv => whnf)
           exact ⟨⟨(k + 1, ()), (by omega), ⟨by rw [hS]; exact hB, by rw [hS, hS2]; exact hN⟩⟩, (by simp only; omega), (by repeat' (first | exact rfl | exact slot_eq (I_eq (iadd_one (by omega))) | (refine cons_eq ?_ ?_) | assumption)), Eq.trans (by repeat' (first | exact rfl | refine cons_eq ?_ ?_ | refine fix_eq ?_ | exact osl_eq rfl (by simp) | exact arr_eq2 rfl (lay_set2 hnw e1 (by simp; rw [List.take_of_length_le (by simp <;> omega)])))) (congrArg (l0H fr to) (hS.trans hS2).symm), rfl, rfl⟩
       · rcases y with _ | ⟨y0, y⟩
         · conv => whnf
           repeat' ((first | refine bt ?_ | refine bf ?_ | refine vo_i hg ?_ | refine vo_i hgi ?_ | refine vo_i hgr ?_ | refine vb_t (ieqs _) ?_ | refine vb_t (by rw [ieq_t]; simp) ?_ | refine vb_t (room_t (by simp only [List.length_map, List.length_cons, List.length_nil, List.length_append, List.length_replicate] at * <;> omega)) ?_ | refine vl ?_ | fail) <;> conv => whnf)
           exact ⟨⟨(k + 1, ()), (by omega), ⟨by rw [hS]; exact hB, by rw [hS, hS2]; exact hN⟩⟩, (by simp only; omega), (by repeat' (first | exact rfl | exact slot_eq (I_eq (iadd_one (by omega))) | (refine cons_eq ?_ ?_) | assumption)), Eq.trans (by repeat' (first | exact rfl | refine cons_eq ?_ ?_ | refine fix_eq ?_ | exact osl_eq rfl (by simp) | exact arr_eq2 rfl (lay_set2 hnw e1 (by simp; rw [List.take_of_length_le (by simp <;> omega)])))) (congrArg (l0H fr to) (hS.trans hS2).symm), rfl, rfl⟩
         · conv => whnf
           repeat' ((first | refine bt ?_ | refine bf ?_ | refine vo_i hg ?_ | refine vo_i hgi ?_ | refine vo_i hgr ?_ | refine vb_t (ieqs _) ?_ | refine vb_t (by rw [ieq_t]; simp) ?_ | refine vb_t (room_t (by simp only [List.length_map, List.length_cons, List.length_nil, List.length_append, List.length_replicate] at * <;> omega)) ?_ | refine vl ?_ | fail) <;> conv => whnf)
           exact ⟨⟨(k + 1, ()), (by omega), ⟨by rw [hS]; exact hB, by rw [hS, hS2]; exact hN⟩⟩, (by simp only; omega), (by repeat' (first | exact rfl | exact slot_eq (I_eq (iadd_one (by omega))) | (refine cons_eq ?_ ?_) | assumption)), Eq.trans (by repeat' (first | exact rfl | refine cons_eq ?_ ?_ | refine fix_eq ?_ | exact osl_eq rfl (by simp) | exact arr_eq2 rfl (lay_set2 hnw e1 (by simp; rw [List.take_of_length_le (by simp <;> omega)])))) (congrArg (l0H fr to) (hS.trans hS2).symm), rfl, rfl⟩
     · have hS2 : layQ ⟨ls, ts, gl, gt⟩ q = ⟨ls ++ [[]], ts ++ [q.t], gl + 1, if ts = [] then 0 else gt + 1⟩ := by
        unfold layQ
        rw [if_neg hk1]
       cases q with
       | mk kd vn names t cn vi inner =>
       obtain ⟨a1, a2, a3, a4, a5, a6, a7⟩ := t
       simp only [Pc.t, Pc.kind] at hk1 hS2
       have q1 : ieq kd (Int.ofNat 1) = false := by rw [ieq_f]; exact hk1
       have w1 : ieq (ls.length : Int) ((ls.map lnRow).length : Int) = true := by rw [ieq_t, List.length_map]
       rcases ts with _ | ⟨t1, ts⟩
       · have hS3 := hS.trans hS2
         rw [if_pos rfl] at hS3
         conv => whnf
         repeat' ((first | refine bt ?_ | refine bf ?_ | refine vo_i hg ?_ | refine vb_t (room_t (by simp <;> omega)) ?_ | refine vl ?_ | fail) <;> conv => whnf)
         exact ⟨⟨(k + 1, ()), (by omega), ⟨by rw [hS]; exact hB, by rw [hS, hS2]; exact fun _ => by simp⟩⟩, (by simp only; omega), (by repeat' (first | exact rfl | exact slot_eq (I_eq (iadd_one (by omega))) | (refine cons_eq ?_ ?_) | assumption)), Eq.trans (by repeat' (first | exact rfl | refine cons_eq ?_ ?_ | refine fix_eq ?_ | exact osl_eq rfl (by simp) | exact arr_eq2 rfl (by rw [List.map_append]; rfl))) (congrArg (l0H fr to) hS3.symm), rfl, rfl⟩
       · have w2 : ieq ((t1 :: ts).length : Int) (((t1 :: ts).map trkRow).length : Int) = true := by rw [ieq_t, List.length_map]
         have hS3 := hS.trans hS2
         rw [if_neg (by simp)] at hS3
         conv => whnf
         repeat' ((first | refine bt ?_ | refine bf ?_ | refine vo_i hg ?_ | refine vb_t (room_t (by simp only [List.length_map, List.length_cons, List.length_nil, List.length_drop, List.length_take, List.length_set, List.length_replicate] at * <;> omega)) ?_ | refine vl ?_ | fail) <;> conv => whnf)
         exact ⟨⟨(k + 1, ()), (by omega), ⟨by rw [hS]; exact hB, by rw [hS, hS2]; exact fun _ => by simp⟩⟩, (by simp only; omega), (by repeat' (first | exact rfl | exact slot_eq (I_eq (iadd_one (by omega))) | (refine cons_eq ?_ ?_) | assumption)), Eq.trans (by repeat' (first | exact rfl | refine cons_eq ?_ ?_ | refine fix_eq ?_ | exact osl_eq rfl (by simp) | exact arr_eq2 rfl (by rw [List.map_append]; rfl) | exact arr_eq2 rfl (List.map_append (f := trkRow) (l₁ := t1 :: ts) (l₂ := [⟨a1, a2, a3, a4, a5, a6, a7⟩])).symm)) (congrArg (l0H fr to) hS3.symm), rfl, rfl⟩
   · obtain rfl : k = L.length := by omega
     have hl := nlt_len (f := pcRow) (Nat.not_lt.2 (Nat.le_refl L.length))
     rw [List.take_length] at hI ⊢
     generalize hE : L.foldl layQ s0 = s at *
     rcases s with ⟨ls, ts, gl, gt⟩
     rcases ts with _ | ⟨t1, ts⟩
     · obtain ⟨hI, hN⟩ := hI
       have hE2 := hE
       rw [hs0] at hE2
       conv => whnf
       repeat' ((first | refine bt ?_ | refine bf ?_ | refine vl ?_ | fail) <;> conv => whnf)
       exact congrArg (fun s => (⟨.ret (lrA false fr to s), lrH false fr to s, .no⟩ : CRes)) hE2.symm
     · have hE2 := hE
       rw [hs0] at hE2
       conv => whnf
       repeat' ((first | refine bt ?_ | refine bf ?_ | refine vl ?_ | fail) <;> conv => whnf)
       exact congrArg (fun s => (⟨.ret (lrA false fr to s), lrH false fr to s, .no⟩ : CRes)) hE2.symm
 · conv => whnf
   repeat' ((first | refine bt ?_ | refine bf ?_ | refine vl ?_ | fail) <;> conv => whnf)
   refine vloop_cnh (α := Unit) L.length (fun k _ => AxB (c + k) ((L.take k).foldl layQ s0) ∧ LayT true ((L.take k).foldl layQ s0)) (fun k _ => [(5, I (k : Int))]) (fun k _ => l1H fr to ((L.take k).foldl layQ s0)) () ⟨h0, (fun _ => by rw [hs0]; simp)⟩ rfl (by rw [hs0]; rfl) ?_
   intro k _ hk hI
   rcases Nat.lt_or_ge k L.length with hlt | hge
   · obtain ⟨q, hq⟩ := get_in hlt
     have hg := iget_map (f := pcRow) hq
     have hl := lt_len (f := pcRow) hlt
     have hLq := hL q (List.mem_of_getElem? hq)
     have hS := foldl_succ (f := layQ) (s := s0) hq
     have hB := axB_lay hI.1 hLq
     obtain ⟨⟨b1, b2, b3⟩, hN⟩ := hI
     generalize (L.take k).foldl layQ s0 = s at *
     rcases s with ⟨ls, ts, gl, gt⟩
     have hgl : Nat.beq gl gl = true := by simp
     have hgt : Nat.beq gt gt = true := by simp
     simp only at b1 b2 b3
     obtain ⟨y, hy⟩ := get_in (l := ls) (k := ls.length - 1) (by omega)
     have hyl := b3 y (List.mem_of_getElem? hy)
     have e1 : isub .i64 ((ls.length : Int) - ((0 : Nat) : Int)) (Int.ofNat 1) = ((ls.length - 1 : Nat) : Int) := by rw [isub64 (by rw [o1']; omega) (by rw [o1']; omega), o1']; omega
     by_cases hk1 : q.kind = 1
     · have hS2 : layQ ⟨ls, ts, gl, gt⟩ q = ⟨ls.set (ls.length - 1) (y ++ q.names), ts, gl, gt⟩ := by
        unfold layQ
        rw [if_pos hk1]
        simp only [hy, Option.getD_some]
       obtain ⟨hn0, hn16⟩ := hLq.2 hk1
       have hnw : nmW (y ++ q.names) = .sl 1 ((y ++ q.names).map wsRow) := nmW_ne (by simp [hn0])
       have hgi : iget (((ls.map lnRow).take ls.length).drop 0) (isub .i64 ((ls.length : Int) - ((0 : Nat) : Int)) (Int.ofNat 1)) = some (lnRow y) := by
        rw [List.drop_zero, List.take_of_length_le (by simp), e1]; exact iget_map hy
       have hgr : (ls.map lnRow)[0 + (isub .i64 ((ls.length : Int) - ((0 : Nat) : Int)) (Int.ofNat 1)).toNat]? = some (lnRow y) := by
        rw [e1, Nat.zero_add, Int.toNat_natCast, List.getElem?_map, hy]; rfl
       have hPo := hLq.1
       cases hPo with
       | @mk kd vn names t cn vi inner hvn hvi hin =>
       simp only [Pc.names, Pc.kind] at hn0 hn16 hk1 hnw hS2
       have q1 : ieq kd (Int.ofNat 1) = true := by rw [ieq_t]; exact hk1
       rcases hvn with ⟨rfl, hvn⟩ | rfl
       · exact (hn0 (List.map_eq_nil_iff.1 hvn)).elim
       have z00 : ieq ((0 : Nat) : Int) ((0 : Nat) : Int) = true := by rw [ieq_t]
       rcases ts with _ | ⟨t1, ts⟩
       · exact (hN rfl rfl).elim
       · rcases y with _ | ⟨y0, y⟩
         · conv => whnf
           repeat' ((first | refine bt ?_ | refine bf ?_ | refine vo_i hg ?_ | refine vo_i hgi ?_ | refine vo_i hgr ?_ | refine vb_t (ieqs _) ?_ | refine vb_t (by rw [ieq_t]; simp) ?_ | refine vb_t (room_t (by simp only [List.length_map, List.length_cons, List.length_nil, List.length_append, List.length_replicate] at * <;> omega)) ?_ | refine vl ?_ | fail) <;> conv => whnf)
           exact ⟨⟨(k + 1, ()), (by omega), ⟨by rw [hS]; exact hB, by rw [hS, hS2]; exact hN⟩⟩, (by simp only; omega), (by repeat' (first | exact rfl | exact slot_eq (I_eq (iadd_one (by omega))) | (refine cons_eq ?_ ?_) | assumption)), Eq.trans (by repeat' (first | exact rfl | refine cons_eq ?_ ?_ | refine fix_eq ?_ | exact osl_eq rfl (by simp) | exact arr_eq2 rfl (lay_set2 hnw e1 (by simp; rw [List.take_of_length_le (by simp <;> omega)])))) (congrArg (l1H fr to) (hS.trans hS2).symm), rfl, rfl⟩
         · conv => whnf
           repeat' ((first | refine bt ?_ | refine bf ?_ | refine vo_i hg ?_ | refine vo_i hgi ?_ | refine vo_i hgr ?_ | refine vb_t (ieqs _) ?_ | refine vb_t (by rw [ieq_t]; simp) ?_ | refine vb_t (room_t (by simp only [List.length_map, List.length_cons, List.length_nil, List.length_append, List.length_replicate] at * <;> omega)) ?_ | refine vl ?_ | fail) <;> conv => whnf)
           exact ⟨⟨(k + 1, ()), (by omega), ⟨by rw [hS]; exact hB, by rw [hS, hS2]; exact hN⟩⟩, (by simp only; omega), (by repeat' (first | exact rfl | exact slot_eq (I_eq (iadd_one (by omega))) | (refine cons_eq ?_ ?_) | assumption)), Eq.trans (by repeat' (first | exact rfl | refine cons_eq ?_ ?_ | refine fix_eq ?_ | exact osl_eq rfl (by simp) | exact arr_eq2 rfl (lay_set2 hnw e1 (by simp; rw [List.take_of_length_le (by simp <;> omega)])))) (congrArg (l1H fr to) (hS.trans hS2).symm), rfl, rfl⟩
     · have hS2 : layQ ⟨ls, ts, gl, gt⟩ q = ⟨ls ++ [[]], ts ++ [q.t], gl + 1, if ts = [] then 0 else gt + 1⟩ := by
        unfold layQ
        rw [if_neg hk1]
       cases q with
       | mk kd vn names t cn vi inner =>
       obtain ⟨a1, a2, a3, a4, a5, a6, a7⟩ := t
       simp only [Pc.t, Pc.kind] at hk1 hS2
       have q1 : ieq kd (Int.ofNat 1) = false := by rw [ieq_f]; exact hk1
       have w1 : ieq (ls.length : Int) ((ls.map lnRow).length : Int) = true := by rw [ieq_t, List.length_map]
       rcases ts with _ | ⟨t1, ts⟩
       · exact (hN rfl rfl).elim
       · have w2 : ieq ((t1 :: ts).length : Int) (((t1 :: ts).map trkRow).length : Int) = true := by rw [ieq_t, List.length_map]
         have hS3 := hS.trans hS2
         rw [if_neg (by simp)] at hS3
         conv => whnf
         repeat' ((first | refine bt ?_ | refine bf ?_ | refine vo_i hg ?_ | refine vb_t (room_t (by simp only [List.length_map, List.length_cons, List.length_nil, List.length_drop, List.length_take, List.length_set, List.length_replicate] at * <;> omega)) ?_ | refine vl ?_ | fail) <;> conv => whnf)
         exact ⟨⟨(k + 1, ()), (by omega), ⟨by rw [hS]; exact hB, by rw [hS, hS2]; exact fun _ => by simp⟩⟩, (by simp only; omega), (by repeat' (first | exact rfl | exact slot_eq (I_eq (iadd_one (by omega))) | (refine cons_eq ?_ ?_) | assumption)), Eq.trans (by repeat' (first | exact rfl | refine cons_eq ?_ ?_ | refine fix_eq ?_ | exact osl_eq rfl (by simp) | exact arr_eq2 rfl (by rw [List.map_append]; rfl) | exact arr_eq2 rfl (List.map_append (f := trkRow) (l₁ := t1 :: ts) (l₂ := [⟨a1, a2, a3, a4, a5, a6, a7⟩])).symm)) (congrArg (l1H fr to) hS3.symm), rfl, rfl⟩
   · obtain rfl : k = L.length := by omega
     have hl := nlt_len (f := pcRow) (Nat.not_lt.2 (Nat.le_refl L.length))
     rw [List.take_length] at hI ⊢
     generalize hE : L.foldl layQ s0 = s at *
     rcases s with ⟨ls, ts, gl, gt⟩
     rcases ts with _ | ⟨t1, ts⟩
     · obtain ⟨hI, hN⟩ := hI
       exact (hN rfl rfl).elim
     · have hE2 := hE
       rw [hs0] at hE2
       conv => whnf
       repeat' ((first | refine bt ?_ | refine bf ?_ | refine vl ?_ | fail) <;> conv => whnf)
       exact congrArg (fun s => (⟨.ret (lrA true fr to s), lrH true fr to s, .no⟩ : CRes)) hE2.symm
end Go.Proofs.YtkljckbaenbjeaaGreatDoor.Ab
namespace Go.Proofs.YtkljckbaenbjeaaGreatDoor.Ab
open Go
set_option linter.unusedSimpArgs false
set_option maxRecDepth 100000
set_option linter.unusedVariables false
set_option maxHeartbeats 8000000
def arP (p : Pc) : Obj := ⟨.mine, 43, .arr false 0 11 [pcRow p]⟩
def l1V (s : AxS) : AV := match s.ts with
 | [] => .osl 1 0 0 1
 | _ :: _ => .osl 2 0 0 1
def li1H (s : AxS) (p : Pc) : Heap := match s.ts with
 | [] => [lnO s.gl s.ls, arP p]
 | t :: r => [lnO s.gl s.ls, trO s.gt (t :: r), arP p]
def lr1H (b : Bool) (p : Pc) (fr to : Int) (s : AxS) : Heap := match b, s.ts with
 | true, ts => [lnO s.gl s.ls, trO s.gt ts, arP p, axO (.osl 0 s.gl 0 s.ls.length) (.osl 1 s.gt 0 ts.length) fr to, axO (.osl 0 s.gl 0 s.ls.length) (.osl 1 s.gt 0 ts.length) fr to]
 | false, [] => [lnO s.gl s.ls, arP p, axO (.osl 0 s.gl 0 s.ls.length) (.d .nilsl) fr to, axO (.osl 0 s.gl 0 s.ls.length) (.d .nilsl) fr to]
 | false, t :: r => [lnO s.gl s.ls, arP p, axO (.osl 0 s.gl 0 s.ls.length) (.osl 4 s.gt 0 (t :: r).length) fr to, axO (.osl 0 s.gl 0 s.ls.length) (.osl 4 s.gt 0 (t :: r).length) fr to, trO s.gt (t :: r)]
def lr1A (b : Bool) (fr to : Int) (s : AxS) : AV := match b, s.ts with
 | true, ts => .agg [.osl 0 s.gl 0 s.ls.length, .osl 1 s.gt 0 ts.length, I fr, I to]
 | false, [] => .agg [.osl 0 s.gl 0 s.ls.length, .d .nilsl, I fr, I to]
 | false, t :: r => .agg [.osl 0 s.gl 0 s.ls.length, .osl 4 s.gt 0 (t :: r).length, I fr, I to]
theorem cr_eq {a b : AV} {h g : Heap} (e1 : a = b) (e2 : h = g) : (⟨.ret a, h, .no⟩ : CRes) = ⟨.ret b, g, .no⟩ := by rw [e1, e2]
theorem agg_eq {a b : List AV} (e : a = b) : AV.agg a = .agg b := by rw [e]
theorem rlaid1_ok (q : Pc) (hLq : LayP q) (s0 : AxS) (c : Nat) (h0 : AxB c s0) (hc : c ≤ 1000000000) (fr to : Int) :
 CallsTo F0 18 [liA s0 fr to, l1V s0] (li1H s0 q) .no ⟨.ret (lr1A (hasT s0) fr to (layQ s0 q)), lr1H (hasT s0) q fr to (layQ s0 q), .no⟩ := by
 refine calls_code code18_ok ?_
 rcases s0 with ⟨ls, ts, gl, gt⟩
 obtain ⟨b1, b2, b3⟩ := h0
 have hgl : Nat.beq gl gl = true := by simp
 have hgt : Nat.beq gt gt = true := by simp
 simp only at b1 b2 b3
 obtain ⟨y, hy⟩ := get_in (l := ls) (k := ls.length - 1) (by omega)
 have hyl := b3 y (List.mem_of_getElem? hy)
 have e1 : isub .i64 ((ls.length : Int) - ((0 : Nat) : Int)) (Int.ofNat 1) = ((ls.length - 1 : Nat) : Int) := by rw [isub64 (by rw [o1']; omega) (by rw [o1']; omega), o1']; omega
 have hl0 : ilt (Int.ofNat 0) (((1 : Nat) : Int) - ((0 : Nat) : Int)) = true := by rw [ilt_t]; decide
 have n1 : iadd .i64 (Int.ofNat 0) (Int.ofNat 1) = 1 := by rw [iadd64 (by decide) (by decide)]; rfl
 have hl1 : ilt (iadd .i64 (Int.ofNat 0) (Int.ofNat 1)) (((1 : Nat) : Int) - ((0 : Nat) : Int)) = false := by rw [n1, ilt_f]; decide
 have hgq : iget (List.drop 0 (List.take 1 [pcRow q])) (Int.ofNat 0) = some (pcRow q) := iget_t (n := 0) rfl
 have hgs : ([pcRow q] : List (List DV))[0 + (Int.ofNat 0).toNat]? = some (pcRow q) := rfl
 by_cases hk1 : q.kind = 1
 · have hS2 : layQ ⟨ls, ts, gl, gt⟩ q = ⟨ls.set (ls.length - 1) (y ++ q.names), ts, gl, gt⟩ := by
    unfold layQ
    rw [if_pos hk1]
    simp only [hy, Option.getD_some]
   rw [hS2]
   obtain ⟨hn0, hn16⟩ := hLq.2 hk1
   have hnw : nmW (y ++ q.names) = .sl 1 ((y ++ q.names).map wsRow) := nmW_ne (by simp [hn0])
   have hgi : iget (((ls.map lnRow).take ls.length).drop 0) (isub .i64 ((ls.length : Int) - ((0 : Nat) : Int)) (Int.ofNat 1)) = some (lnRow y) := by
    rw [List.drop_zero, List.take_of_length_le (by simp), e1]; exact iget_map hy
   have hgr : (ls.map lnRow)[0 + (isub .i64 ((ls.length : Int) - ((0 : Nat) : Int)) (Int.ofNat 1)).toNat]? = some (lnRow y) := by
    rw [e1, Nat.zero_add, Int.toNat_natCast, List.getElem?_map, hy]; rfl
   have hPo := hLq.1
   cases hPo with
   | @mk kd vn names t cn vi inner hvn hvi hin =>
   simp only [Pc.names, Pc.kind] at hn0 hn16 hk1 hnw
   have q1 : ieq kd (Int.ofNat 1) = true := by rw [ieq_t]; exact hk1
   rcases hvn with ⟨rfl, hvn⟩ | rfl
   · exact (hn0 (List.map_eq_nil_iff.1 hvn)).elim
   have z00 : ieq ((0 : Nat) : Int) ((0 : Nat) : Int) = true := by rw [ieq_t]
   rcases ts with _ | ⟨t1, ts⟩
   · rcases y with _ | ⟨y0, y⟩
     · conv => whnf
       repeat' ((first | refine bt ?_ | refine bf ?_ | refine vl ?_ | fail) <;> conv => whnf)
       refine vloop_once ?_
       conv => whnf
       repeat' ((first | refine bt ?_ | refine bf ?_ | refine vo_i hgq ?_ | refine vo_i hgs ?_ | refine vo_i hgi ?_ | refine vo_i hgr ?_ | refine vb_t (ieqs _) ?_ | refine vb_t (by rw [ieq_t]; simp) ?_ | refine vb_t (room_t (by simp only [List.length_map, List.length_cons, List.length_nil, List.length_append, List.length_replicate] at * <;> omega)) ?_ | refine vl ?_ | fail) <;> conv => whnf)
       refine vloop_once ?_
       conv => whnf
       repeat' ((first | refine bt ?_ | refine bf ?_ | refine vl ?_ | fail) <;> conv => whnf)
       exact cr_eq (agg_eq (by repeat' (first | exact rfl | refine cons_eq ?_ ?_ | exact osl_eq rfl (by simp)))) (by repeat' (first | exact rfl | refine cons_eq ?_ ?_ | refine fix_eq ?_ | exact osl_eq rfl (by simp) | exact arr_eq2 rfl (lay_set2 hnw e1 (by simp; rw [List.take_of_length_le (by simp <;> omega)] <;> rfl))))
     · conv => whnf
       repeat' ((first | refine bt ?_ | refine bf ?_ | refine vl ?_ | fail) <;> conv => whnf)
       refine vloop_once ?_
       conv => whnf
       repeat' ((first | refine bt ?_ | refine bf ?_ | refine vo_i hgq ?_ | refine vo_i hgs ?_ | refine vo_i hgi ?_ | refine vo_i hgr ?_ | refine vb_t (ieqs _) ?_ | refine vb_t (by rw [ieq_t]; simp) ?_ | refine vb_t (room_t (by simp only [List.length_map, List.length_cons, List.length_nil, List.length_append, List.length_replicate] at * <;> omega)) ?_ | refine vl ?_ | fail) <;> conv => whnf)
       refine vloop_once ?_
       conv => whnf
       repeat' ((first | refine bt ?_ | refine bf ?_ | refine vl ?_ | fail) <;> conv => whnf)
       exact cr_eq (agg_eq (by repeat' (first | exact rfl | refine cons_eq ?_ ?_ | exact osl_eq rfl (by simp)))) (by repeat' (first | exact rfl | refine cons_eq ?_ ?_ | refine fix_eq ?_ | exact osl_eq rfl (by simp) | exact arr_eq2 rfl (lay_set2 hnw e1 (by simp; rw [List.take_of_length_le (by simp <;> omega)] <;> rfl))))
   · rcases y with _ | ⟨y0, y⟩
     · conv => whnf
       repeat' ((first | refine bt ?_ | refine bf ?_ | refine vl ?_ | fail) <;> conv => whnf)
       refine vloop_once ?_
       conv => whnf
       repeat' ((first | refine bt ?_ | refine bf ?_ | refine vo_i hgq ?_ | refine vo_i hgs ?_ | refine vo_i hgi ?_ | refine vo_i hgr ?_ | refine vb_t (ieqs _) ?_ | refine vb_t (by rw [ieq_t]; simp) ?_ | refine vb_t (room_t (by simp only [List.length_map, List.length_cons, List.length_nil, List.length_append, List.length_replicate] at * <;> omega)) ?_ | refine vl ?_ | fail) <;> conv => whnf)
       refine vloop_once ?_
       conv => whnf
       repeat' ((first | refine bt ?_ | refine bf ?_ | refine vl ?_ | fail) <;> conv => whnf)
       exact cr_eq (agg_eq (by repeat' (first | exact rfl | refine cons_eq ?_ ?_ | exact osl_eq rfl (by simp)))) (by repeat' (first | exact rfl | refine cons_eq ?_ ?_ | refine fix_eq ?_ | exact osl_eq rfl (by simp) | exact arr_eq2 rfl (lay_set2 hnw e1 (by simp; rw [List.take_of_length_le (by simp <;> omega)] <;> rfl))))
     · conv => whnf
       repeat' ((first | refine bt ?_ | refine bf ?_ | refine vl ?_ | fail) <;> conv => whnf)
       refine vloop_once ?_
       conv => whnf
       repeat' ((first | refine bt ?_ | refine bf ?_ | refine vo_i hgq ?_ | refine vo_i hgs ?_ | refine vo_i hgi ?_ | refine vo_i hgr ?_ | refine vb_t (ieqs _) ?_ | refine vb_t (by rw [ieq_t]; simp) ?_ | refine vb_t (room_t (by simp only [List.length_map, List.length_cons, List.length_nil, List.length_append, List.length_replicate] at * <;> omega)) ?_ | refine vl ?_ | fail) <;> conv => whnf)
       refine vloop_once ?_
       conv => whnf
       repeat' ((first | refine bt ?_ | refine bf ?_ | refine vl ?_ | fail) <;> conv => whnf)
       exact cr_eq (agg_eq (by repeat' (first | exact rfl | refine cons_eq ?_ ?_ | exact osl_eq rfl (by simp)))) (by repeat' (first | exact rfl | refine cons_eq ?_ ?_ | refine fix_eq ?_ | exact osl_eq rfl (by simp) | exact arr_eq2 rfl (lay_set2 hnw e1 (by simp; rw [List.take_of_length_le (by simp <;> omega)] <;> rfl))))
 · have hS2 : layQ ⟨ls, ts, gl, gt⟩ q = ⟨ls ++ [[]], ts ++ [q.t], gl + 1, if ts = [] then 0 else gt + 1⟩ := by
    unfold layQ
    rw [if_neg hk1]
   rw [hS2]
   cases q with
   | mk kd vn names t cn vi inner =>
   obtain ⟨a1, a2, a3, a4, a5, a6, a7⟩ := t
   simp only [Pc.t, Pc.kind] at hk1
   have q1 : ieq kd (Int.ofNat 1) = false := by rw [ieq_f]; exact hk1
   have w1 : ieq (ls.length : Int) ((ls.map lnRow).length : Int) = true := by rw [ieq_t, List.length_map]
   rcases ts with _ | ⟨t1, ts⟩
   · rw [if_pos rfl]
     conv => whnf
     repeat' ((first | refine bt ?_ | refine bf ?_ | refine vl ?_ | fail) <;> conv => whnf)
     refine vloop_once ?_
     conv => whnf
     repeat' ((first | refine bt ?_ | refine bf ?_ | refine vo_i hgq ?_ | refine vo_i hgs ?_ | refine vb_t (room_t (by simp only [List.length_map, List.length_cons, List.length_nil, List.length_drop, List.length_take, List.length_set, List.length_replicate] at * <;> omega)) ?_ | refine vl ?_ | fail) <;> conv => whnf)
     refine vloop_once ?_
     conv => whnf
     repeat' ((first | refine bt ?_ | refine bf ?_ | refine vl ?_ | fail) <;> conv => whnf)
     exact cr_eq (agg_eq (by repeat' (first | exact rfl | refine cons_eq ?_ ?_ | exact osl_eq rfl (by simp)))) (by repeat' (first | exact rfl | refine cons_eq ?_ ?_ | refine fix_eq ?_ | exact osl_eq rfl (by simp) | exact arr_eq2 rfl (by rw [List.map_append]; rfl) | exact arr_eq2 rfl (List.map_append (f := trkRow) (l₁ := t1 :: ts) (l₂ := [⟨a1, a2, a3, a4, a5, a6, a7⟩])).symm))
   · rw [if_neg (by simp)]
     have w2 : ieq ((t1 :: ts).length : Int) (((t1 :: ts).map trkRow).length : Int) = true := by rw [ieq_t, List.length_map]
     conv => whnf
     repeat' ((first | refine bt ?_ | refine bf ?_ | refine vl ?_ | fail) <;> conv => whnf)
     refine vloop_once ?_
     conv => whnf
     repeat' ((first | refine bt ?_ | refine bf ?_ | refine vo_i hgq ?_ | refine vo_i hgs ?_ | refine vb_t (room_t (by simp only [List.length_map, List.length_cons, List.length_nil, List.length_drop, List.length_take, List.length_set, List.length_replicate] at * <;> omega)) ?_ | refine vl ?_ | fail) <;> conv => whnf)
     refine vloop_once ?_
     conv => whnf
     repeat' ((first | refine bt ?_ | refine bf ?_ | refine vl ?_ | fail) <;> conv => whnf)
     exact cr_eq (agg_eq (by repeat' (first | exact rfl | refine cons_eq ?_ ?_ | exact osl_eq rfl (by simp)))) (by repeat' (first | exact rfl | refine cons_eq ?_ ?_ | refine fix_eq ?_ | exact osl_eq rfl (by simp) | exact arr_eq2 rfl (by rw [List.map_append]; rfl) | exact arr_eq2 rfl (List.map_append (f := trkRow) (l₁ := t1 :: ts) (l₂ := [⟨a1, a2, a3, a4, a5, a6, a7⟩])).symm))
end Go.Proofs.YtkljckbaenbjeaaGreatDoor.Ab
namespace Go.Proofs.YtkljckbaenbjeaaGreatDoor.Ab
open Go
set_option linter.unusedSimpArgs false
set_option linter.unusedVariables false
def trQ (q : Pc) : Nat := if q.kind = 1 then 0 else 1
def trN : List Pc → Nat
 | [] => 0
 | q :: L => trQ q + trN L
theorem layQ_len {s : AxS} {q : Pc} : (layQ s q).ts.length = s.ts.length + trQ q := by
 unfold layQ trQ
 split
 · simp
 · simp
theorem lay_lenN {L : List Pc} : ∀ {s : AxS}, (L.foldl layQ s).ts.length = s.ts.length + trN L := by
 induction L with
 | nil => intro s; rfl
 | cons q L ih =>
  intro s
  rw [List.foldl_cons, ih, layQ_len, trN, Nat.add_assoc]
theorem trN_append (a b : List Pc) : trN (a ++ b) = trN a + trN b := by
 induction a with
 | nil => simp [trN]
 | cons q a ih => rw [List.cons_append, trN, trN, ih, Nat.add_assoc]
theorem repL_trN {m : Nat} {L : List Pc} : trN (repL m L) = m * trN L := by
 induction m with
 | zero => simp [repL, trN]
 | succ m ih => show trN (repL m L ++ L) = _; rw [trN_append, ih, Nat.succ_mul]
theorem trN_le (L : List Pc) : trN L ≤ L.length := by
 induction L with
 | nil => exact Nat.le_refl _
 | cons q L ih =>
  have : trQ q ≤ 1 := by unfold trQ; split <;> omega
  rw [trN, List.length_cons]; omega
theorem trN_succ {L : List Pc} {j : Nat} {q : Pc} (h : L[j]? = some q) : trN (L.take (j + 1)) = trN (L.take j) + trQ q := by
 rw [List.take_add_one, h, trN_append]
 simp [trN]
def pcC (n : Int) (p : Pc) : Nat := trN (itP n p)
def pcS (n : Int) : List Pc → Nat
 | [] => 0
 | p :: l => pcC n p + pcS n l
theorem pcS_append (n : Int) (a b : List Pc) : pcS n (a ++ b) = pcS n a + pcS n b := by
 induction a with
 | nil => simp [pcS]
 | cons q a ih => rw [List.cons_append, pcS, pcS, ih, Nat.add_assoc]
theorem pcS_succ {n : Int} {l : List Pc} {k : Nat} {p : Pc} (h : l[k]? = some p) : pcS n (l.take (k + 1)) = pcS n (l.take k) + pcC n p := by
 rw [List.take_add_one, h, pcS_append]
 simp [pcS]
theorem axL_len {n : Int} : ∀ {l : List Pc} {x : AxS × Int × Int}, (l.foldl (axP n) x).1.ts.length = x.1.ts.length + pcS n l
 | [], x => rfl
 | p :: l, x => by
  rw [List.foldl_cons, axL_len, pcS, ← Nat.add_assoc]
  congr 1
  exact lay_lenN
theorem axF_len {n : Int} {l : List Pc} : (axF n l).1.ts.length = pcS n l := by
 unfold axF
 rw [axL_len]
 simp [ax0]
theorem pcC_one {n : Int} {p : Pc} (h : p.kind = 1 ∨ p.kind = 2) : pcC n p = if p.kind = 2 then 1 else 0 := by
 unfold pcC
 rw [itP, if_pos h, trN, trN, trQ]
 rcases h with h | h <;> rw [h] <;> decide
theorem pcC_rep {n : Int} {p : Pc} (h : ¬ (p.kind = 1 ∨ p.kind = 2)) : pcC n p = tmN n p * trN p.inner := by
 unfold pcC
 rw [itP, if_neg h, repL_trN]
def TrsR (s : AxS) : Prop := ∀ t ∈ s.ts, rightT t = true
theorem trsR_lay {s : AxS} {q : Pc} (h : TrsR s) (hq : q.kind ≠ 1 → rightT q.t = true) : TrsR (layQ s q) := by
 unfold layQ
 by_cases hk : q.kind = 1
 · rw [if_pos hk]; exact h
 · rw [if_neg hk]
   intro t ht
   rcases List.mem_append.1 ht with ht | ht
   · exact h t ht
   · rw [List.mem_singleton.1 ht]; exact hq hk
theorem trsR_fold {L : List Pc} (hL : ∀ q ∈ L, q.kind ≠ 1 → rightT q.t = true) : ∀ {s : AxS}, TrsR s → TrsR (L.foldl layQ s) := by
 induction L with
 | nil => intro s h; exact h
 | cons q L ih =>
  intro s h
  exact ih (fun p hp => hL p (List.mem_cons_of_mem _ hp)) (trsR_lay h (hL q (List.mem_cons_self ..)))
theorem rep_track {q : Pc} (ha : AloneP q) (hk : ¬ RepK q.kind) : q.kind ≠ 1 → rightT q.t = true := fun h1 => by
 rcases ha with ⟨h, _⟩ | ⟨_, h, _⟩ | ⟨h, _⟩ | ⟨h, _⟩
 · exact (h1 h).elim
 · exact h
 · exact (hk (.inl h)).elim
 · exact (hk (.inr h)).elim
theorem one_two {q : Pc} (ha : AloneP q) (hk : ¬ RepK q.kind) : q.kind = 1 ∨ q.kind = 2 := by
 rcases ha with ⟨h, _⟩ | ⟨h, _⟩ | ⟨h, _⟩ | ⟨h, _⟩
 · exact .inl h
 · exact .inr h
 · exact (hk (.inl h)).elim
 · exact (hk (.inr h)).elim
theorem good_in {l : List Pc} (hG : GoodP l) : ∀ p ∈ l, AloneP p ∧ (¬ RepK p.kind → p.inner = []) ∧ ∀ q ∈ p.inner, AloneP q ∧ ¬ RepK q.kind := by
 intro p hp
 rcases hG with rfl | ⟨h1, h2, h3, _⟩
 · cases hp
 obtain ⟨i, hi⟩ := List.getElem?_of_mem hp
 have ha := (h1.1 i p hi).1
 refine ⟨ha, fun h => alone_inner ha h, fun q hq => ?_⟩
 by_cases hk : RepK p.kind
 · obtain ⟨j, hj⟩ := List.getElem?_of_mem hq
   have := (h2 p hp hk).1 j q hj
   exact ⟨this.1, fun h => this.2.1 ⟨rfl, h⟩⟩
 · rw [alone_inner ha hk] at hq; cases hq
theorem trsR_axF {n : Int} {l : List Pc} (hG : GoodP l) : TrsR (axF n l).1 := by
 have hgi := good_in hG
 have key : ∀ (l' : List Pc), (∀ p ∈ l', p ∈ l) → ∀ x : AxS × Int × Int, TrsR x.1 → TrsR (l'.foldl (axP n) x).1 := by
  intro l'
  induction l' with
  | nil => intro _ x h; exact h
  | cons p l' ih =>
   intro hm x h
   rw [List.foldl_cons]
   refine ih (fun q hq => hm q (List.mem_cons_of_mem _ hq)) _ (trsR_fold (fun q hq => ?_) h)
   obtain ⟨g1, g2, g3⟩ := hgi p (hm p (List.mem_cons_self ..))
   unfold itP at hq
   split at hq
   · rename_i hk
     rw [List.mem_singleton.1 hq]
     exact rep_track g1 (fun hr => by rcases hr with h | h | h <;> omega)
   · obtain ⟨h1, h2⟩ := g3 q (repL_mem hq)
     exact rep_track h1 h2
 exact key l (fun p hp => hp) (ax0, 0, 0) (fun t ht => by cases ht)
def FtP (x : AxS × Int × Int) : Prop := (x.2.1 = 0 ∧ x.2.2 = 0) ∨ (0 ≤ x.2.1 ∧ x.2.1 < x.2.2 ∧ x.2.2 ≤ x.1.ts.length)
theorem ft_axF {n : Int} {l : List Pc} (hG : GoodP l) (hall : ∀ p ∈ l, PcOk p) (hfill : (∃ p ∈ l, AutoK p.kind) → 1 ≤ n) : FtP (axF n l) := by
 have hgl := good_lay hG hall
 have key : ∀ (l' : List Pc), (∀ p ∈ l', p ∈ l) → ∀ x : AxS × Int × Int, FtP x → FtP (l'.foldl (axP n) x) := by
  intro l'
  induction l' with
  | nil => intro _ x h; exact h
  | cons p l' ih =>
   intro hm x h
   rw [List.foldl_cons]
   refine ih (fun q hq => hm q (List.mem_cons_of_mem _ hq)) _ ?_
   have hp := hm p (List.mem_cons_self ..)
   obtain ⟨_, _, _, g4⟩ := hgl p hp
   have hlen : ((itP n p).foldl layQ x.1).ts.length = x.1.ts.length + pcC n p := lay_lenN
   by_cases h5 : p.kind = 5
   · unfold axP
     rw [if_pos h5]
     refine .inr ⟨by simp only; omega, ?_, by simp only; omega⟩
     have hn := hfill ⟨p, hp, .inr h5⟩
     have h12 : ¬ (p.kind = 1 ∨ p.kind = 2) := by omega
     obtain ⟨_, q, hq, hq1⟩ := g4 h12
     have htm : 1 ≤ tmN n p := by unfold tmN; rw [if_neg (by omega)]; omega
     have htr : 1 ≤ trN p.inner := by
      clear hlen
      generalize p.inner = L at hq
      induction L with
      | nil => cases hq
      | cons r L ihL =>
       rw [trN]
       rcases List.mem_cons.1 hq with rfl | hq
       · unfold trQ; rw [if_neg hq1]; omega
       · have := ihL hq; omega
     have hc : 1 ≤ pcC n p := by
      rw [pcC_rep h12]
      exact Nat.mul_le_mul htm htr
     simp only
     omega
   · unfold axP FtP
     rw [if_neg h5]
     rcases h with h | ⟨h1, h2, h3⟩
     · exact .inl h
     · exact .inr ⟨h1, h2, by simp only; omega⟩
 exact key l (fun p hp => hp) (ax0, 0, 0) (.inl ⟨rfl, rfl⟩)
theorem axF_ls {n : Int} {l : List Pc} : (axF n l).1.ls.length = (axF n l).1.ts.length + 1 := by
 have hq : ∀ (q : Pc) (s : AxS), s.ls.length = s.ts.length + 1 → (layQ s q).ls.length = (layQ s q).ts.length + 1 := fun q s h => by
  unfold layQ; split <;> simp [h]
 have hf : ∀ (L : List Pc) (s : AxS), s.ls.length = s.ts.length + 1 → (L.foldl layQ s).ls.length = (L.foldl layQ s).ts.length + 1 := fun L => by
  induction L with
  | nil => intro s h; exact h
  | cons q L ih => intro s h; exact ih _ (hq q s h)
 have key : ∀ (l' : List Pc) (x : AxS × Int × Int), x.1.ls.length = x.1.ts.length + 1 → (l'.foldl (axP n) x).1.ls.length = (l'.foldl (axP n) x).1.ts.length + 1 := fun l' => by
  induction l' with
  | nil => intro x h; exact h
  | cons p l' ih => intro x h; exact ih _ (hf _ _ h)
 exact key l (ax0, 0, 0) rfl
end Go.Proofs.YtkljckbaenbjeaaGreatDoor.Ab
namespace Go.Proofs.YtkljckbaenbjeaaGreatDoor.Ab
open Go
set_option linter.unusedSimpArgs false
set_option maxRecDepth 100000
set_option linter.unusedVariables false
set_option maxHeartbeats 4000000
theorem imin_nat (a b : Nat) : imin (a : Int) (b : Int) = ((min a b : Nat) : Int) := by
 unfold imin; split <;> omega
theorem lit10001 : Int.ofNat 10001 = ((10001 : Nat) : Int) := rfl
theorem pcS_le {n : Int} {l : List Pc} (hG : GoodP l) (hn1 : n ≤ 10000) : ∀ p ∈ l, pcC n p ≤ 2560000 := by
 intro p hp
 rcases hG with rfl | ⟨h1, h2, h3, _⟩
 · cases hp
 obtain ⟨i, hi⟩ := List.getElem?_of_mem hp
 have ha := (h1.1 i p hi).1
 by_cases hk : p.kind = 1 ∨ p.kind = 2
 · rw [pcC_one hk]; split <;> omega
 · rw [pcC_rep hk]
   have hr : RepK p.kind := by
    rcases ha with ⟨h, _⟩ | ⟨h, _⟩ | ⟨h, _⟩ | ⟨h, _⟩
    · exact (hk (.inl h)).elim
    · exact (hk (.inr h)).elim
    · exact .inl h
    · exact .inr h
   have h4 := (h2 p hp hr).2.2
   have h5 := trN_le p.inner
   have h6 := tmN_le (n := n) ha hn1
   exact Nat.le_trans (Nat.mul_le_mul h6 (Nat.le_trans h5 h4)) (by decide)
theorem tm_eq {n : Int} {p : Pc} (ha : AloneP p) (hn0 : 0 ≤ n) : timesS p n = (tmN n p : Int) := by
 unfold timesS tmN
 split
 · rename_i h
   rcases ha with ⟨h1, _⟩ | ⟨h1, _⟩ | ⟨_, h1, _⟩ | ⟨h1, _⟩
   · omega
   · omega
   · omega
   · unfold AutoK at h1; omega
 · omega
theorem rmany_ok (l : List Pc) (hG : GoodP l) (hall : ∀ p ∈ l, PcOk p) (n : Int) (hn0 : 0 ≤ n) (hn1 : n ≤ 10000) :
 Pur F0 17 [.d (.sl 11 (l.map pcRow)), I n] [] .no (.ret (I ((min 10001 (pcS n l) : Nat) : Int))) .no := by
 obtain ⟨hal, hlen⟩ := good_alone hG
 have hgi := good_in hG
 have hle := pcS_le (n := n) hG hn1
 have hgl := good_lay hG hall
 refine pur_code code17_ok ?_
 conv => whnf
 repeat' ((first | refine bt ?_ | refine bf ?_ | refine vl ?_ | fail) <;> conv => whnf)
 refine vloop_cnt (α := Unit) l.length (fun _ _ => True) (fun k _ => [(5, I ((min 10001 (pcS n (l.take k)) : Nat) : Int)), (6, I (k : Int))]) () trivial rfl ?_
 intro k _ hk _
 conv => whnf
 rcases Nat.lt_or_ge k l.length with hlt | hge
 · obtain ⟨p, hp⟩ := get_in hlt
   have hg := iget_map (f := pcRow) hp
   have hl := lt_len (f := pcRow) hlt
   have hm := List.mem_of_getElem? hp
   obtain ⟨g1, g2, g3⟩ := hgi p hm
   obtain ⟨_, _, hil, hRk⟩ := hgl p hm
   have hS := pcS_succ (n := n) hp
   have hC := hle p hm
   have hT := rtimes_ok p n
   rw [tm_eq g1 hn0] at hT
   have htm := tmN_le (n := n) g1 hn1
   have hmin : ∀ a : Nat, a = pcC n p → imin (Int.ofNat 10001) (iadd .i64 ((min 10001 (pcS n (l.take k)) : Nat) : Int) (a : Int)) = ((min 10001 (pcS n (l.take (k + 1))) : Nat) : Int) := fun a ha => by
    rw [iadd64 (by omega) (by omega), lit10001, ← Int.natCast_add, imin_nat, hS, ha]
    congr 1
    omega
   have hpo := hall p hm
   have hone := pcC_one (n := n) (p := p)
   have hrep := pcC_rep (n := n) (p := p)
   have hnin : ¬ (p.kind = 1 ∨ p.kind = 2) → p.inner ≠ [] := fun h e => by
    obtain ⟨_, q, hq, _⟩ := hRk h
    rw [e] at hq; cases hq
   have h12 : (p.kind = 1 ∨ p.kind = 2) → p.inner = [] := fun h => g2 fun hr => by rcases hr with e | e | e <;> omega
   clear hp hall hgi hgl hle hal hG hRk g2
   generalize tmN n p = m at *
   cases hpo with
   | @mk kd vn names t c vi inner hvn hvi h0 =>
   simp only [Pc.inner, Pc.kind] at hnin h12 hone hrep g3 hil
   by_cases hk12 : kd = 1 ∨ kd = 2
   · obtain rfl := h12 hk12
     have h00 : ilt (Int.ofNat 0) (0 : Int) = false := by rw [ilt_f]; decide
     by_cases h2 : kd = 2
     · have q1 : ieq kd (Int.ofNat 2) = true := by rw [ieq_t]; exact h2
       have hM := hmin 1 ((hone hk12).trans (if_pos h2)).symm
       rcases hvi with ⟨rfl, _⟩ | rfl
       · repeat' ((first | refine bt ?_ | refine bf ?_ | refine vo_i hg ?_ | refine vl ?_ | fail) <;> conv => whnf)
         refine vloop_once ?_
         conv => whnf
         repeat' ((first | refine bt ?_ | refine bf ?_ | refine vo_i hg ?_ | refine vl ?_ | fail) <;> conv => whnf)
         exact ⟨⟨(k + 1, ()), (by omega), trivial⟩, (by simp only; omega), (by repeat' (first | exact rfl | exact slot_eq (I_eq hM) | exact slot_eq (I_eq (iadd_one (by omega))) | refine cons_eq ?_ ?_)), rfl, rfl, rfl⟩
       · repeat' ((first | refine bt ?_ | refine bf ?_ | refine vo_i hg ?_ | refine vl ?_ | fail) <;> conv => whnf)
         refine vloop_once ?_
         conv => whnf
         repeat' ((first | refine bt ?_ | refine bf ?_ | refine vo_i hg ?_ | refine vl ?_ | fail) <;> conv => whnf)
         exact ⟨⟨(k + 1, ()), (by omega), trivial⟩, (by simp only; omega), (by repeat' (first | exact rfl | exact slot_eq (I_eq hM) | exact slot_eq (I_eq (iadd_one (by omega))) | refine cons_eq ?_ ?_)), rfl, rfl, rfl⟩
     · have q1 : ieq kd (Int.ofNat 2) = false := by rw [ieq_f]; exact h2
       have hM := hmin 0 ((hone hk12).trans (if_neg h2)).symm
       rcases hvi with ⟨rfl, _⟩ | rfl
       · repeat' ((first | refine bt ?_ | refine bf ?_ | refine vo_i hg ?_ | refine vl ?_ | fail) <;> conv => whnf)
         refine vloop_once ?_
         conv => whnf
         repeat' ((first | refine bt ?_ | refine bf ?_ | refine vo_i hg ?_ | refine vl ?_ | fail) <;> conv => whnf)
         exact ⟨⟨(k + 1, ()), (by omega), trivial⟩, (by simp only; omega), (by repeat' (first | exact rfl | exact slot_eq (I_eq hM) | exact slot_eq (I_eq (iadd_one (by omega))) | refine cons_eq ?_ ?_)), rfl, rfl, rfl⟩
       · repeat' ((first | refine bt ?_ | refine bf ?_ | refine vo_i hg ?_ | refine vl ?_ | fail) <;> conv => whnf)
         refine vloop_once ?_
         conv => whnf
         repeat' ((first | refine bt ?_ | refine bf ?_ | refine vo_i hg ?_ | refine vl ?_ | fail) <;> conv => whnf)
         exact ⟨⟨(k + 1, ()), (by omega), trivial⟩, (by simp only; omega), (by repeat' (first | exact rfl | exact slot_eq (I_eq hM) | exact slot_eq (I_eq (iadd_one (by omega))) | refine cons_eq ?_ ?_)), rfl, rfl, rfl⟩
   · have hnin := hnin hk12
     rcases hvi with ⟨rfl, hvi⟩ | rfl
     · exact (hnin (List.map_eq_nil_iff.1 hvi)).elim
     have q1 : ieq kd (Int.ofNat 2) = false := by rw [ieq_f]; exact fun e => hk12 (.inr e)
     have hM := hmin (m * trN inner) (hrep hk12).symm
     clear hmin hone hrep h12 h0 hC
     repeat' ((first | refine bt ?_ | refine bf ?_ | refine vo_i hg ?_ | refine vl ?_ | fail) <;> conv => whnf)
     refine vloop_cnt (α := Unit) inner.length (fun _ _ => True) (fun j _ => [(7, I ((m * trN (inner.take j) : Nat) : Int)), (8, I (j : Int))]) () trivial rfl ?_
     intro j _ hj _
     conv => whnf
     rcases Nat.lt_or_ge j inner.length with hlj | hgj
     · obtain ⟨q, hq⟩ := get_in hlj
       have hgq := iget_map (f := pcRow) hq
       have hlq := lt_len (f := pcRow) hlj
       obtain ⟨ha, hr⟩ := g3 q (List.mem_of_getElem? hq)
       have h12 := one_two ha hr
       have hs := trN_succ hq
       have hb : m * trN (inner.take j) ≤ 10000 * 256 := Nat.mul_le_mul htm (Nat.le_trans (trN_le _) (by rw [List.length_take]; omega))
       clear hq ha hr
       cases q with
       | mk kd2 vn2 names2 t2 c2 vi2 inner2 =>
       simp only [Pc.kind] at h12
       have n1 : iadd .i64 (j : Int) (Int.ofNat 1) = ((j + 1 : Nat) : Int) := by rw [iadd64 (by rw [o1']; omega) (by rw [o1']; omega), o1']; omega
       by_cases h2 : kd2 = 2
       · have u1 : ieq kd2 (Int.ofNat 2) = true := by rw [ieq_t]; exact h2
         have e7 : iadd .i64 ((m * trN (inner.take j) : Nat) : Int) (m : Int) = ((m * trN (inner.take (j + 1)) : Nat) : Int) := by
          rw [hs, trQ, if_neg (show ¬ (Pc.mk kd2 vn2 names2 t2 c2 vi2 inner2).kind = 1 from fun e => by rw [show kd2 = 1 from e] at h2; cases h2), Nat.mul_add, Nat.mul_one, iadd64 (by omega) (by omega)]
          omega
         repeat' ((first | refine bt ?_ | refine bf ?_ | refine vo_i hg ?_ | refine vo_i hgq ?_ | refine vpur_i hT ?_ | refine vl ?_ | fail) <;> conv => whnf)
         exact ⟨⟨(j + 1, ()), (by omega), trivial⟩, (by simp only; omega), (by repeat' (first | exact rfl | exact slot_eq (I_eq e7) | exact slot_eq (I_eq n1) | refine cons_eq ?_ ?_)), rfl, rfl, rfl⟩
       · have u1 : ieq kd2 (Int.ofNat 2) = false := by rw [ieq_f]; exact h2
         have e7 : ((m * trN (inner.take j) : Nat) : Int) = ((m * trN (inner.take (j + 1)) : Nat) : Int) := by
          rw [hs, trQ, if_pos (show (Pc.mk kd2 vn2 names2 t2 c2 vi2 inner2).kind = 1 from h12.resolve_right h2), Nat.add_zero]
         repeat' ((first | refine bt ?_ | refine bf ?_ | refine vo_i hg ?_ | refine vo_i hgq ?_ | refine vl ?_ | fail) <;> conv => whnf)
         exact ⟨⟨(j + 1, ()), (by omega), trivial⟩, (by simp only; omega), (by repeat' (first | exact rfl | exact slot_eq (I_eq e7) | exact slot_eq (I_eq n1) | refine cons_eq ?_ ?_)), rfl, rfl, rfl⟩
     · have hlq := nlt_len (f := pcRow) (Nat.not_lt.2 hgj)
       obtain rfl : j = inner.length := by omega
       rw [List.take_length]
       repeat' ((first | refine bt ?_ | refine bf ?_ | refine vo_i hg ?_ | refine vl ?_ | fail) <;> conv => whnf)
       exact ⟨⟨(k + 1, ()), (by omega), trivial⟩, (by simp only; omega), (by repeat' (first | exact rfl | exact slot_eq (I_eq hM) | exact slot_eq (I_eq (iadd_one (by omega))) | refine cons_eq ?_ ?_)), rfl, rfl, rfl⟩
 · obtain rfl : k = l.length := by omega
   have hl := nlt_len (f := pcRow) (Nat.not_lt.2 (Nat.le_refl l.length))
   rw [List.take_length]
   repeat' ((first | refine bt ?_ | refine bf ?_ | refine vb_f (by (first | omega | (simp only [ilt_t, ilt_f, ile_t, ile_f, ieq_t, ieq_f, ofn, List.length_map, Bool.not_eq_true', Bool.not_eq_false'] at *; omega))) ?_ | refine vl ?_ | fail) <;> conv => whnf)
   exact ⟨rfl, rfl⟩
end Go.Proofs.YtkljckbaenbjeaaGreatDoor.Ab
namespace Go.Proofs.YtkljckbaenbjeaaGreatDoor.Ab
open Go
set_option linter.unusedSimpArgs false
set_option maxRecDepth 100000
set_option linter.unusedVariables false
set_option maxHeartbeats 8000000
def rxH (fr to : Int) (s : AxS) : Heap := match s.ts with
 | [] => [ax0O, axO (.osl 2 s.gl 0 s.ls.length) (.d .nilsl) fr to, lnO s.gl s.ls]
 | t :: r => [ax0O, axO (.osl 2 s.gl 0 s.ls.length) (.osl 3 s.gt 0 (t :: r).length) fr to, lnO s.gl s.ls, trO s.gt (t :: r)]
theorem axB_up {c c' : Nat} {s : AxS} (h : c ≤ c') (hB : AxB c s) : AxB c' s := ⟨hB.1, by have := hB.2.1; omega, fun x hx => by have := hB.2.2 x hx; omega⟩
theorem rmany_lt {m : Nat} (h : 10000 < m) : ilt (Int.ofNat 10000) ((min 10001 m : Nat) : Int) = true := by rw [ilt_t, Int.ofNat_eq_natCast]; omega
theorem rmany_ge {m : Nat} (h : ¬ 10000 < m) : ilt (Int.ofNat 10000) ((min 10001 m : Nat) : Int) = false := by rw [ilt_f, Int.ofNat_eq_natCast]; omega
theorem raxis_ok (l : List Pc) (size gap : Int) (b : Bool) (n : Int) (hC : Pur F0 16 [.d (.sl 11 (l.map pcRow)), I size, B b, I gap] [] .no (.ret (.tup [I n, I 0])) .no)
 (hG : GoodP l) (hall : ∀ p ∈ l, PcOk p) (hn0 : 0 ≤ n) (hn1 : n ≤ 10000) :
 Pur F0 7 [.d (.sl 11 (l.map pcRow)), I size, B b, I gap] [] .no (.ret (axA (axF n l))) .no := by
 obtain ⟨hal, hlen⟩ := good_alone hG
 have hgl := good_lay hG hall
 have hM := rmany_ok l hG hall n hn0 hn1
 have z : (!ieq (0 : Int) (Int.ofNat 0)) = false := by rw [Bool.not_eq_false', ieq_t]; rfl
 by_cases hbig : 10000 < pcS n l
 · have hA : axA (axF n l) = .tup [.agg [.d .nilsl, .d .nilsl, I 0, I 0], I 52] := by
    unfold axA
    rw [if_neg (by rw [axF_len]; omega)]
   rw [hA]
   have wl := rmany_lt hbig
   refine pur_code code7_ok ?_
   conv => whnf
   repeat' ((first | refine bt ?_ | refine bf ?_ | refine vpur_i hC ?_ | refine vpur_i hM ?_ | refine vl ?_ | fail) <;> conv => whnf)
   exact ⟨rfl, rfl⟩
 have wl := rmany_ge hbig
 refine pur_code code7_ok ?_
 conv => whnf
 repeat' ((first | refine bt ?_ | refine bf ?_ | refine vpur_i hC ?_ | refine vpur_i hM ?_ | refine vl ?_ | fail) <;> conv => whnf)
 refine vloop_cnh (α := AxS × Int × Int) l.length (fun k x => AxB (2560000 * k) x.1 ∧ x = axF n (l.take k)) (fun k _ => [(13, I (k : Int))]) (fun _ x => rxH x.2.1 x.2.2 x.1) (ax0, 0, 0) ⟨⟨rfl, Nat.zero_le _, fun x hx => by rw [List.mem_singleton.1 hx]; simp⟩, rfl⟩ rfl rfl ?_
 rintro k ⟨s, fr, to⟩ hk ⟨hB, hX⟩
 simp only at hB
 rcases Nat.lt_or_ge k l.length with hlt | hge
 · obtain ⟨p, hp⟩ := get_in hlt
   have hg := iget_map (f := pcRow) hp
   have hl := lt_len (f := pcRow) hlt
   have hm := List.mem_of_getElem? hp
   obtain ⟨hLp, hLi, hil, hRk⟩ := hgl p hm
   have hap := hal p hm
   have hS := axF_succ (n := n) hp
   rw [← hX] at hS
   have hPo := hLp.1
   by_cases hk12 : p.kind = 1 ∨ p.kind = 2
   · have hlay := rlaid1_ok p hLp s (2560000 * k) hB (by omega) fr to
     have hit : itP n p = [p] := if_pos hk12
     have hx : axP n (s, fr, to) p = (layQ s p, fr, to) := by
      unfold axP
      rw [hit, if_neg (by omega)]
      rfl
     have hB' : AxB (2560000 * (k + 1)) (layQ s p) := axB_up (by omega) (axB_lay hB hLp)
     rw [hx] at hS
     have hne : s.ts ≠ [] → (layQ s p).ts ≠ [] := fun h e => by
      have := layQ_mono (s := s) (q := p)
      rw [e] at this
      exact h (List.length_eq_zero_iff.1 (Nat.le_zero.1 this))
     generalize layQ s p = s' at *
     cases hPo with
     | @mk kd vn names t cn vi inner hvn hvi hin =>
     simp only [Pc.kind] at hk12
     have q3 : ilt kd (Int.ofNat 3) = true := by
      rw [ilt_t]
      clear hRk hgl hLp hLi hlay
      rcases hk12 with h | h <;> rw [h] <;> decide
     rcases s with ⟨ls, _ | ⟨t1, ts⟩, gl, gt⟩
     · rcases s' with ⟨ls', _ | ⟨t1', ts'⟩, gl', gt'⟩
       · conv => whnf
         repeat' ((first | refine bt ?_ | refine bf ?_ | refine vo_i hg ?_ | refine vcall_i hlay ?_ | refine vl ?_ | fail) <;> conv => whnf)
         exact ⟨⟨(k + 1, (_, fr, to)), (by omega), ⟨hB', hS.symm⟩⟩, (by simp only; omega), (by repeat' (first | exact rfl | exact slot_eq (I_eq (iadd_one (by omega))) | (refine cons_eq ?_ ?_) | assumption)), rfl, rfl, rfl⟩
       · conv => whnf
         repeat' ((first | refine bt ?_ | refine bf ?_ | refine vo_i hg ?_ | refine vcall_i hlay ?_ | refine vl ?_ | fail) <;> conv => whnf)
         exact ⟨⟨(k + 1, (_, fr, to)), (by omega), ⟨hB', hS.symm⟩⟩, (by simp only; omega), (by repeat' (first | exact rfl | exact slot_eq (I_eq (iadd_one (by omega))) | (refine cons_eq ?_ ?_) | assumption)), rfl, rfl, rfl⟩
     · rcases s' with ⟨ls', _ | ⟨t1', ts'⟩, gl', gt'⟩
       · exact (hne (by simp) rfl).elim
       · conv => whnf
         repeat' ((first | refine bt ?_ | refine bf ?_ | refine vo_i hg ?_ | refine vcall_i hlay ?_ | refine vl ?_ | fail) <;> conv => whnf)
         exact ⟨⟨(k + 1, (_, fr, to)), (by omega), ⟨hB', hS.symm⟩⟩, (by simp only; omega), (by repeat' (first | exact rfl | exact slot_eq (I_eq (iadd_one (by omega))) | (refine cons_eq ?_ ?_) | assumption)), rfl, rfl, rfl⟩
   · obtain ⟨hRep, hTr⟩ := hRk hk12
     have hit : itP n p = repL (tmN n p) p.inner := if_neg hk12
     have hx : axP n (s, fr, to) p = ((repL (tmN n p) p.inner).foldl layQ s, if p.kind = 5 then ((s.ts.length : Int), (((repL (tmN n p) p.inner).foldl layQ s).ts.length : Int)) else (fr, to)) := by
      unfold axP
      rw [hit]
     rw [hx] at hS
     have htm := tmN_le hap hn1
     have hT := rtimes_ok p n
     rw [tm_eq hap hn0] at hT
     have hlay := fun (j : Nat) (s' : AxS) (hb : AxB (2560000 * k + j * 256) s') (hj : j ≤ 10000) => rlaid_ok p.inner hLi s' (2560000 * k + j * 256) hb (by omega) fr to
     have hbnd := fun (j : Nat) (hj : j ≤ 10000) => axB_up (c' := 2560000 * k + j * 256) (by rw [repL_len]; have := Nat.mul_le_mul_left j hil; omega) (axB_fold (L := repL j p.inner) (fun q hq => hLi q (repL_mem hq)) hB)
     have hN5 : p.kind = 5 → ∀ s' : AxS, s' = (repL (tmN n p) p.inner).foldl layQ s → AxB (2560000 * (k + 1)) s' ∧ (s', (s.ts.length : Int), (s'.ts.length : Int)) = axF n (l.take (k + 1)) := fun h5 s' h => ⟨by rw [h]; exact axB_up (by omega) (hbnd (tmN n p) htm), by rw [hS, if_pos h5, h]⟩
     have hNn : p.kind ≠ 5 → ∀ s' : AxS, s' = (repL (tmN n p) p.inner).foldl layQ s → AxB (2560000 * (k + 1)) s' ∧ (s', fr, to) = axF n (l.take (k + 1)) := fun h5 s' h => ⟨by rw [h]; exact axB_up (by omega) (hbnd (tmN n p) htm), by rw [hS, if_neg h5, h]⟩
     have htr : ∀ s' : AxS, (p.inner.foldl layQ s').ts ≠ [] := fun s' => lay_track hTr
     have hnin : p.inner ≠ [] := fun h => by obtain ⟨q, hq, _⟩ := hTr; rw [h] at hq; cases hq
     clear hRk hgl hLp hx hit hTr hLi hS hap hX
     generalize tmN n p = m at *
     cases hPo with
     | @mk kd vn names t cn vi inner hvn hvi hin =>
     generalize hKD : (Pc.mk kd vn names t cn vi inner).kind = KD at *
     generalize hIN : (Pc.mk kd vn names t cn vi inner).inner = IN at *
     obtain rfl : kd = KD := hKD
     obtain rfl : inner = IN := hIN
     rcases hvi with ⟨rfl, hvi⟩ | rfl
     · exact (hnin (List.map_eq_nil_iff.1 hvi)).elim
     have q3 : ilt kd (Int.ofNat 3) = false := by
      rw [ilt_f]
      rcases hRep with h | h | h <;> rw [h] <;> decide
     by_cases h5 : kd = 5
     · have q5 : ieq kd (Int.ofNat 5) = true := by rw [ieq_t]; exact h5
       have hNx := hN5 h5
       rcases s with ⟨ls, _ | ⟨t1, ts⟩, gl, gt⟩
       · conv => whnf
         repeat' ((first | refine bt ?_ | refine bf ?_ | refine vo_i hg ?_ | refine vl ?_ | fail) <;> conv => whnf)
         refine vloop_cnh (α := Unit) m (fun j _ => True) (fun j _ => [(15, I (j : Int))]) (fun j _ => rxH fr to ((repL j inner).foldl layQ (⟨ls, [], gl, gt⟩ : AxS))) () trivial rfl rfl ?_
         intro j _ hj _
         have hbj := hbnd j (by omega)
         have hNj := fun h : j = m => hNx ((repL j inner).foldl layQ (⟨ls, [], gl, gt⟩ : AxS)) (by rw [h])
         have hlj := hlay j _ hbj (by omega)
         have htj := htr ((repL j inner).foldl layQ (⟨ls, [], gl, gt⟩ : AxS))
         have hsj : (repL (j + 1) inner).foldl layQ (⟨ls, [], gl, gt⟩ : AxS) = inner.foldl layQ ((repL j inner).foldl layQ (⟨ls, [], gl, gt⟩ : AxS)) := repL_foldl
         rcases Nat.lt_or_ge j m with hjm | hjm
         · have wl : ilt (j : Int) (m : Int) = true := by rw [ilt_t]; omega
           clear hlay hbnd htr hNj hNx hN5 hNn hbj
           generalize inner.foldl layQ ((repL j inner).foldl layQ (⟨ls, [], gl, gt⟩ : AxS)) = s2 at *
           generalize (repL j inner).foldl layQ (⟨ls, [], gl, gt⟩ : AxS) = s1 at *
           rcases s2 with ⟨ls2, _ | ⟨t2, ts2⟩, gl2, gt2⟩
           · exact (htj rfl).elim
           rcases s1 with ⟨ls1, _ | ⟨t3, ts1⟩, gl1, gt1⟩
           · conv => whnf
             repeat' ((first | refine bt ?_ | refine bf ?_ | refine vo_i hg ?_ | refine vpur_i hT ?_ | refine vcall_i hlj ?_ | refine vl ?_ | fail) <;> conv => whnf)
             exact ⟨⟨(j + 1, ()), (by omega), trivial⟩, (by simp only; omega), (by repeat' (first | exact rfl | exact slot_eq (I_eq (iadd_one (by omega))) | (refine cons_eq ?_ ?_) | assumption)), congrArg (rxH fr to) hsj.symm, rfl, rfl⟩
           · conv => whnf
             repeat' ((first | refine bt ?_ | refine bf ?_ | refine vo_i hg ?_ | refine vpur_i hT ?_ | refine vcall_i hlj ?_ | refine vl ?_ | fail) <;> conv => whnf)
             exact ⟨⟨(j + 1, ()), (by omega), trivial⟩, (by simp only; omega), (by repeat' (first | exact rfl | exact slot_eq (I_eq (iadd_one (by omega))) | (refine cons_eq ?_ ?_) | assumption)), congrArg (rxH fr to) hsj.symm, rfl, rfl⟩
         · obtain rfl : j = m := by omega
           have wl : ilt (j : Int) (j : Int) = false := by rw [ilt_f]; omega
           have hNj := hNj rfl
           clear hlay hbnd htr hNx hN5 hNn hsj hlj htj
           generalize (repL j inner).foldl layQ (⟨ls, [], gl, gt⟩ : AxS) = s1 at *
           rcases s1 with ⟨ls1, _ | ⟨t3, ts1⟩, gl1, gt1⟩
           · conv => whnf
             repeat' ((first | refine bt ?_ | refine bf ?_ | refine vo_i hg ?_ | refine vpur_i hT ?_ | refine vl ?_ | fail) <;> conv => whnf)
             exact ⟨⟨(k + 1, (_, (((⟨ls, [], gl, gt⟩ : AxS)).ts.length : Int), _)), (by omega), hNj⟩, (by simp only; omega), (by repeat' (first | exact rfl | exact slot_eq (I_eq (iadd_one (by omega))) | (refine cons_eq ?_ ?_) | assumption)), cons_eq rfl (cons_eq (fix_eq (cons_eq rfl (cons_eq rfl (cons_eq (I_eq (by simp)) (cons_eq (I_eq (by simp)) rfl))))) rfl), rfl, rfl⟩
           · conv => whnf
             repeat' ((first | refine bt ?_ | refine bf ?_ | refine vo_i hg ?_ | refine vpur_i hT ?_ | refine vl ?_ | fail) <;> conv => whnf)
             exact ⟨⟨(k + 1, (_, (((⟨ls, [], gl, gt⟩ : AxS)).ts.length : Int), _)), (by omega), hNj⟩, (by simp only; omega), (by repeat' (first | exact rfl | exact slot_eq (I_eq (iadd_one (by omega))) | (refine cons_eq ?_ ?_) | assumption)), cons_eq rfl (cons_eq (fix_eq (cons_eq rfl (cons_eq rfl (cons_eq (I_eq (by simp)) (cons_eq (I_eq (by simp)) rfl))))) rfl), rfl, rfl⟩
       · conv => whnf
         repeat' ((first | refine bt ?_ | refine bf ?_ | refine vo_i hg ?_ | refine vl ?_ | fail) <;> conv => whnf)
         refine vloop_cnh (α := Unit) m (fun j _ => True) (fun j _ => [(15, I (j : Int))]) (fun j _ => rxH fr to ((repL j inner).foldl layQ (⟨ls, t1 :: ts, gl, gt⟩ : AxS))) () trivial rfl rfl ?_
         intro j _ hj _
         have hbj := hbnd j (by omega)
         have hNj := fun h : j = m => hNx ((repL j inner).foldl layQ (⟨ls, t1 :: ts, gl, gt⟩ : AxS)) (by rw [h])
         have hlj := hlay j _ hbj (by omega)
         have htj := htr ((repL j inner).foldl layQ (⟨ls, t1 :: ts, gl, gt⟩ : AxS))
         have hsj : (repL (j + 1) inner).foldl layQ (⟨ls, t1 :: ts, gl, gt⟩ : AxS) = inner.foldl layQ ((repL j inner).foldl layQ (⟨ls, t1 :: ts, gl, gt⟩ : AxS)) := repL_foldl
         rcases Nat.lt_or_ge j m with hjm | hjm
         · have wl : ilt (j : Int) (m : Int) = true := by rw [ilt_t]; omega
           clear hlay hbnd htr hNj hNx hN5 hNn hbj
           generalize inner.foldl layQ ((repL j inner).foldl layQ (⟨ls, t1 :: ts, gl, gt⟩ : AxS)) = s2 at *
           generalize (repL j inner).foldl layQ (⟨ls, t1 :: ts, gl, gt⟩ : AxS) = s1 at *
           rcases s2 with ⟨ls2, _ | ⟨t2, ts2⟩, gl2, gt2⟩
           · exact (htj rfl).elim
           rcases s1 with ⟨ls1, _ | ⟨t3, ts1⟩, gl1, gt1⟩
           · conv => whnf
             repeat' ((first | refine bt ?_ | refine bf ?_ | refine vo_i hg ?_ | refine vpur_i hT ?_ | refine vcall_i hlj ?_ | refine vl ?_ | fail) <;> conv => whnf)
             exact ⟨⟨(j + 1, ()), (by omega), trivial⟩, (by simp only; omega), (by repeat' (first | exact rfl | exact slot_eq (I_eq (iadd_one (by omega))) | (refine cons_eq ?_ ?_) | assumption)), congrArg (rxH fr to) hsj.symm, rfl, rfl⟩
           · conv => whnf
             repeat' ((first | refine bt ?_ | refine bf ?_ | refine vo_i hg ?_ | refine vpur_i hT ?_ | refine vcall_i hlj ?_ | refine vl ?_ | fail) <;> conv => whnf)
             exact ⟨⟨(j + 1, ()), (by omega), trivial⟩, (by simp only; omega), (by repeat' (first | exact rfl | exact slot_eq (I_eq (iadd_one (by omega))) | (refine cons_eq ?_ ?_) | assumption)), congrArg (rxH fr to) hsj.symm, rfl, rfl⟩
         · obtain rfl : j = m := by omega
           have wl : ilt (j : Int) (j : Int) = false := by rw [ilt_f]; omega
           have hNj := hNj rfl
           clear hlay hbnd htr hNx hN5 hNn hsj hlj htj
           generalize (repL j inner).foldl layQ (⟨ls, t1 :: ts, gl, gt⟩ : AxS) = s1 at *
           rcases s1 with ⟨ls1, _ | ⟨t3, ts1⟩, gl1, gt1⟩
           · conv => whnf
             repeat' ((first | refine bt ?_ | refine bf ?_ | refine vo_i hg ?_ | refine vpur_i hT ?_ | refine vl ?_ | fail) <;> conv => whnf)
             exact ⟨⟨(k + 1, (_, (((⟨ls, t1 :: ts, gl, gt⟩ : AxS)).ts.length : Int), _)), (by omega), hNj⟩, (by simp only; omega), (by repeat' (first | exact rfl | exact slot_eq (I_eq (iadd_one (by omega))) | (refine cons_eq ?_ ?_) | assumption)), cons_eq rfl (cons_eq (fix_eq (cons_eq rfl (cons_eq rfl (cons_eq (I_eq (by simp)) (cons_eq (I_eq (by simp)) rfl))))) rfl), rfl, rfl⟩
           · conv => whnf
             repeat' ((first | refine bt ?_ | refine bf ?_ | refine vo_i hg ?_ | refine vpur_i hT ?_ | refine vl ?_ | fail) <;> conv => whnf)
             exact ⟨⟨(k + 1, (_, (((⟨ls, t1 :: ts, gl, gt⟩ : AxS)).ts.length : Int), _)), (by omega), hNj⟩, (by simp only; omega), (by repeat' (first | exact rfl | exact slot_eq (I_eq (iadd_one (by omega))) | (refine cons_eq ?_ ?_) | assumption)), cons_eq rfl (cons_eq (fix_eq (cons_eq rfl (cons_eq rfl (cons_eq (I_eq (by simp)) (cons_eq (I_eq (by simp)) rfl))))) rfl), rfl, rfl⟩
     · have q5 : ieq kd (Int.ofNat 5) = false := by rw [ieq_f]; exact h5
       have hNx := hNn h5
       rcases s with ⟨ls, _ | ⟨t1, ts⟩, gl, gt⟩
       · conv => whnf
         repeat' ((first | refine bt ?_ | refine bf ?_ | refine vo_i hg ?_ | refine vl ?_ | fail) <;> conv => whnf)
         refine vloop_cnh (α := Unit) m (fun j _ => True) (fun j _ => [(15, I (j : Int))]) (fun j _ => rxH fr to ((repL j inner).foldl layQ (⟨ls, [], gl, gt⟩ : AxS))) () trivial rfl rfl ?_
         intro j _ hj _
         have hbj := hbnd j (by omega)
         have hNj := fun h : j = m => hNx ((repL j inner).foldl layQ (⟨ls, [], gl, gt⟩ : AxS)) (by rw [h])
         have hlj := hlay j _ hbj (by omega)
         have htj := htr ((repL j inner).foldl layQ (⟨ls, [], gl, gt⟩ : AxS))
         have hsj : (repL (j + 1) inner).foldl layQ (⟨ls, [], gl, gt⟩ : AxS) = inner.foldl layQ ((repL j inner).foldl layQ (⟨ls, [], gl, gt⟩ : AxS)) := repL_foldl
         rcases Nat.lt_or_ge j m with hjm | hjm
         · have wl : ilt (j : Int) (m : Int) = true := by rw [ilt_t]; omega
           clear hlay hbnd htr hNj hNx hN5 hNn hbj
           generalize inner.foldl layQ ((repL j inner).foldl layQ (⟨ls, [], gl, gt⟩ : AxS)) = s2 at *
           generalize (repL j inner).foldl layQ (⟨ls, [], gl, gt⟩ : AxS) = s1 at *
           rcases s2 with ⟨ls2, _ | ⟨t2, ts2⟩, gl2, gt2⟩
           · exact (htj rfl).elim
           rcases s1 with ⟨ls1, _ | ⟨t3, ts1⟩, gl1, gt1⟩
           · conv => whnf
             repeat' ((first | refine bt ?_ | refine bf ?_ | refine vo_i hg ?_ | refine vpur_i hT ?_ | refine vcall_i hlj ?_ | refine vl ?_ | fail) <;> conv => whnf)
             exact ⟨⟨(j + 1, ()), (by omega), trivial⟩, (by simp only; omega), (by repeat' (first | exact rfl | exact slot_eq (I_eq (iadd_one (by omega))) | (refine cons_eq ?_ ?_) | assumption)), congrArg (rxH fr to) hsj.symm, rfl, rfl⟩
           · conv => whnf
             repeat' ((first | refine bt ?_ | refine bf ?_ | refine vo_i hg ?_ | refine vpur_i hT ?_ | refine vcall_i hlj ?_ | refine vl ?_ | fail) <;> conv => whnf)
             exact ⟨⟨(j + 1, ()), (by omega), trivial⟩, (by simp only; omega), (by repeat' (first | exact rfl | exact slot_eq (I_eq (iadd_one (by omega))) | (refine cons_eq ?_ ?_) | assumption)), congrArg (rxH fr to) hsj.symm, rfl, rfl⟩
         · obtain rfl : j = m := by omega
           have wl : ilt (j : Int) (j : Int) = false := by rw [ilt_f]; omega
           have hNj := hNj rfl
           clear hlay hbnd htr hNx hN5 hNn hsj hlj htj
           generalize (repL j inner).foldl layQ (⟨ls, [], gl, gt⟩ : AxS) = s1 at *
           rcases s1 with ⟨ls1, _ | ⟨t3, ts1⟩, gl1, gt1⟩
           · conv => whnf
             repeat' ((first | refine bt ?_ | refine bf ?_ | refine vo_i hg ?_ | refine vpur_i hT ?_ | refine vl ?_ | fail) <;> conv => whnf)
             exact ⟨⟨(k + 1, (_, fr, to)), (by omega), hNj⟩, (by simp only; omega), (by repeat' (first | exact rfl | exact slot_eq (I_eq (iadd_one (by omega))) | (refine cons_eq ?_ ?_) | assumption)), rfl, rfl, rfl⟩
           · conv => whnf
             repeat' ((first | refine bt ?_ | refine bf ?_ | refine vo_i hg ?_ | refine vpur_i hT ?_ | refine vl ?_ | fail) <;> conv => whnf)
             exact ⟨⟨(k + 1, (_, fr, to)), (by omega), hNj⟩, (by simp only; omega), (by repeat' (first | exact rfl | exact slot_eq (I_eq (iadd_one (by omega))) | (refine cons_eq ?_ ?_) | assumption)), rfl, rfl, rfl⟩
       · conv => whnf
         repeat' ((first | refine bt ?_ | refine bf ?_ | refine vo_i hg ?_ | refine vl ?_ | fail) <;> conv => whnf)
         refine vloop_cnh (α := Unit) m (fun j _ => True) (fun j _ => [(15, I (j : Int))]) (fun j _ => rxH fr to ((repL j inner).foldl layQ (⟨ls, t1 :: ts, gl, gt⟩ : AxS))) () trivial rfl rfl ?_
         intro j _ hj _
         have hbj := hbnd j (by omega)
         have hNj := fun h : j = m => hNx ((repL j inner).foldl layQ (⟨ls, t1 :: ts, gl, gt⟩ : AxS)) (by rw [h])
         have hlj := hlay j _ hbj (by omega)
         have htj := htr ((repL j inner).foldl layQ (⟨ls, t1 :: ts, gl, gt⟩ : AxS))
         have hsj : (repL (j + 1) inner).foldl layQ (⟨ls, t1 :: ts, gl, gt⟩ : AxS) = inner.foldl layQ ((repL j inner).foldl layQ (⟨ls, t1 :: ts, gl, gt⟩ : AxS)) := repL_foldl
         rcases Nat.lt_or_ge j m with hjm | hjm
         · have wl : ilt (j : Int) (m : Int) = true := by rw [ilt_t]; omega
           clear hlay hbnd htr hNj hNx hN5 hNn hbj
           generalize inner.foldl layQ ((repL j inner).foldl layQ (⟨ls, t1 :: ts, gl, gt⟩ : AxS)) = s2 at *
           generalize (repL j inner).foldl layQ (⟨ls, t1 :: ts, gl, gt⟩ : AxS) = s1 at *
           rcases s2 with ⟨ls2, _ | ⟨t2, ts2⟩, gl2, gt2⟩
           · exact (htj rfl).elim
           rcases s1 with ⟨ls1, _ | ⟨t3, ts1⟩, gl1, gt1⟩
           · conv => whnf
             repeat' ((first | refine bt ?_ | refine bf ?_ | refine vo_i hg ?_ | refine vpur_i hT ?_ | refine vcall_i hlj ?_ | refine vl ?_ | fail) <;> conv => whnf)
             exact ⟨⟨(j + 1, ()), (by omega), trivial⟩, (by simp only; omega), (by repeat' (first | exact rfl | exact slot_eq (I_eq (iadd_one (by omega))) | (refine cons_eq ?_ ?_) | assumption)), congrArg (rxH fr to) hsj.symm, rfl, rfl⟩
           · conv => whnf
             repeat' ((first | refine bt ?_ | refine bf ?_ | refine vo_i hg ?_ | refine vpur_i hT ?_ | refine vcall_i hlj ?_ | refine vl ?_ | fail) <;> conv => whnf)
             exact ⟨⟨(j + 1, ()), (by omega), trivial⟩, (by simp only; omega), (by repeat' (first | exact rfl | exact slot_eq (I_eq (iadd_one (by omega))) | (refine cons_eq ?_ ?_) | assumption)), congrArg (rxH fr to) hsj.symm, rfl, rfl⟩
         · obtain rfl : j = m := by omega
           have wl : ilt (j : Int) (j : Int) = false := by rw [ilt_f]; omega
           have hNj := hNj rfl
           clear hlay hbnd htr hNx hN5 hNn hsj hlj htj
           generalize (repL j inner).foldl layQ (⟨ls, t1 :: ts, gl, gt⟩ : AxS) = s1 at *
           rcases s1 with ⟨ls1, _ | ⟨t3, ts1⟩, gl1, gt1⟩
           · conv => whnf
             repeat' ((first | refine bt ?_ | refine bf ?_ | refine vo_i hg ?_ | refine vpur_i hT ?_ | refine vl ?_ | fail) <;> conv => whnf)
             exact ⟨⟨(k + 1, (_, fr, to)), (by omega), hNj⟩, (by simp only; omega), (by repeat' (first | exact rfl | exact slot_eq (I_eq (iadd_one (by omega))) | (refine cons_eq ?_ ?_) | assumption)), rfl, rfl, rfl⟩
           · conv => whnf
             repeat' ((first | refine bt ?_ | refine bf ?_ | refine vo_i hg ?_ | refine vpur_i hT ?_ | refine vl ?_ | fail) <;> conv => whnf)
             exact ⟨⟨(k + 1, (_, fr, to)), (by omega), hNj⟩, (by simp only; omega), (by repeat' (first | exact rfl | exact slot_eq (I_eq (iadd_one (by omega))) | (refine cons_eq ?_ ?_) | assumption)), rfl, rfl, rfl⟩
 · obtain rfl : k = l.length := by omega
   have hl := nlt_len (f := pcRow) (Nat.not_lt.2 (Nat.le_refl l.length))
   rw [List.take_length] at hX
   have hle : (axF n l).1.ts.length ≤ 10000 := by rw [axF_len]; omega
   rw [← hX] at hle ⊢
   unfold axA
   rw [if_pos hle]
   have hgl1 : ∀ g : Nat, Nat.beq g g = true := fun g => by simp
   rcases s with ⟨ls, _ | ⟨t1, ts⟩, gl, gt⟩
   · have hg1 := hgl1 gl
     conv => whnf
     repeat' ((first | refine bt ?_ | refine bf ?_ | refine vl ?_ | fail) <;> conv => whnf)
     refine ⟨?_, rfl⟩
     show CR.ret (AV.tup [.agg [.d (.sl 1 (((ls.map lnRow).take ls.length).drop 0)), .d .nilsl, I fr, I to], I 0]) = _
     rw [List.drop_zero, List.take_of_length_le (by simp)]
     rfl
   · have hg1 := hgl1 gl
     have hg2 := hgl1 gt
     conv => whnf
     repeat' ((first | refine bt ?_ | refine bf ?_ | refine vl ?_ | fail) <;> conv => whnf)
     refine ⟨?_, rfl⟩
     show CR.ret (AV.tup [.agg [.d (.sl 1 (((ls.map lnRow).take ls.length).drop 0)), .d (.sl 7 ((((t1 :: ts).map trkRow).take (t1 :: ts).length).drop 0)), I fr, I to], I 0]) = _
     rw [List.drop_zero, List.take_of_length_le (by simp), List.drop_zero, List.take_of_length_le (by simp)]
     rfl
end Go.Proofs.YtkljckbaenbjeaaGreatDoor.Ab
namespace Go.Proofs.YtkljckbaenbjeaaGreatDoor.Ab
open Go Go.ChangeShapes Go.WideShapes Go.RowKit
set_option linter.unusedSimpArgs false
set_option maxRecDepth 100000
set_option linter.unusedVariables false
set_option maxHeartbeats 4000000
theorem axg1_ok (t : Trk) : Pur F0 21 [trkA t] [] .no (.ret (B (!rightT t))) .no := by
 have hr := right_ok t
 refine pur_code code21_ok ?_
 conv => whnf
 repeat' ((first | refine bt ?_ | refine bf ?_ | refine vpur_i hr ?_ | refine vl ?_ | fail) <;> conv => whnf)
 exact ⟨rfl, rfl⟩
theorem indexT_ok (ts : List Trk) (v : DV) (hv : SlV 7 (ts.map trkRow) v) (hlen : ts.length ≤ 1000000000) : ∃ n : Int, Pur F0 42 [.d v, .fn .pure 21 [] []] [] .no (.ret (I n)) .no ∧ (0 ≤ n ↔ ∃ t ∈ ts, rightT t = false) := by
 refine pur_ret (g := I) code42_ok ?_
 rcases hv with ⟨rfl, hn⟩ | rfl
 · obtain rfl : ts = [] := List.map_eq_nil_iff.1 hn
   conv => whnf
   repeat' ((first | refine bt ?_ | refine bf ?_ | refine vl ?_ | fail) <;> conv => whnf)
   refine vloop_once ?_
   have h00 : ilt (Int.ofNat 0) (0 : Int) = false := by rw [ilt_f]; decide
   conv => whnf
   repeat' ((first | refine bt ?_ | refine bf ?_ | refine vl ?_ | fail) <;> conv => whnf)
   exact ⟨-1, rfl, rfl, fun h => by omega, fun ⟨t, h, _⟩ => by cases h⟩
 · conv => whnf
   repeat' ((first | refine bt ?_ | refine bf ?_ | refine vl ?_ | fail) <;> conv => whnf)
   refine vloop_cnt (α := Unit) ts.length (fun k _ => ∀ (i : Nat) (t : Trk), i < k → ts[i]? = some t → rightT t = true) (fun k _ => [(8, I (k : Int))]) () (fun i p h => by omega) rfl ?_
   intro k _ hk hI
   conv => whnf
   by_cases hlt : k < ts.length
   · obtain ⟨t, ht⟩ := get_in hlt
     have hg := iget_map (f := trkRow) ht
     have hl := lt_len (f := trkRow) hlt
     have hc := axg1_ok t
     cases hR : rightT t with
     | false =>
      rw [hR] at hc
      have hE : ∃ t ∈ ts, rightT t = false := ⟨t, List.mem_of_getElem? ht, hR⟩
      clear ht
      have hc : Pur F0 21 [trkA t] [] .no (.ret (B true)) .no := hc
      cases t with
      | mk a1 a2 a3 a4 a5 a6 a7 =>
      repeat' ((first | refine bt ?_ | refine bf ?_ | refine vo_i hg ?_ | refine vpur_i hc ?_ | refine vl ?_ | fail) <;> conv => whnf)
      exact ⟨(k : Int), rfl, rfl, fun _ => hE, fun _ => by omega⟩
     | true =>
      rw [hR] at hc
      have hn := upto_succ (P := fun _ t => rightT t = true) hI ht hR
      clear ht
      have hc : Pur F0 21 [trkA t] [] .no (.ret (B false)) .no := hc
      cases t with
      | mk a1 a2 a3 a4 a5 a6 a7 =>
      repeat' ((first | refine bt ?_ | refine bf ?_ | refine vo_i hg ?_ | refine vpur_i hc ?_ | refine vl ?_ | fail) <;> conv => whnf)
      exact ⟨⟨(k + 1, ()), (by omega), hn⟩, (by simp only; omega), (by repeat' (first | exact rfl | exact slot_eq (I_eq (iadd_one (by omega))) | (refine cons_eq ?_ ?_) | assumption)), rfl, rfl, rfl⟩
   · have hl := nlt_len (f := trkRow) hlt
     have hE : ¬ ∃ t ∈ ts, rightT t = false := by
      rintro ⟨t, ht, hR⟩
      obtain ⟨i, hi⟩ := List.getElem?_of_mem ht
      have := hI i t (by have := (List.getElem?_eq_some_iff.1 hi).1; omega) hi
      rw [hR] at this; cases this
     repeat' ((first | refine bt ?_ | refine bf ?_ | refine vb_f (by (first | omega | (simp only [ilt_t, ilt_f, ile_t, ile_f, ieq_t, ieq_f, ofn, List.length_map, Bool.not_eq_true', Bool.not_eq_false'] at *; omega))) ?_ | refine vl ?_ | fail) <;> conv => whnf)
     exact ⟨-1, rfl, rfl, fun h => by omega, fun h => (hE h).elim⟩
theorem containsT_ok (ts : List Trk) (v : DV) (hv : SlV 7 (ts.map trkRow) v) (hlen : ts.length ≤ 1000000000) : Pur F0 23 [.d v, .fn .pure 21 [] []] [] .no (.ret (B (pb (∃ t ∈ ts, rightT t = false)))) .no := by
 obtain ⟨n, h1, h2⟩ := indexT_ok ts v hv hlen
 have h1 := drp_of_pur h1
 refine pur_code code23_ok ?_
 conv => whnf
 repeat' ((first | refine bt ?_ | refine bf ?_ | refine vdrp_i h1 ?_ | refine vl ?_ | fail) <;> conv => whnf)
 refine ⟨retB ?_, rfl⟩
 rw [Bool.eq_iff_iff, pb_iff, ile_t, ← h2]
 exact Iff.rfl
def GoodAx (n : Nat) (ts : List Trk) (fr to : Int) : Prop := ts.length ≤ 10000 ∧ n = ts.length + 1 ∧ (¬ ∃ t ∈ ts, rightT t = false) ∧ ((fr = 0 ∧ to = 0) ∨ (0 ≤ fr ∧ fr < to ∧ to ≤ ts.length))
theorem one_more {n : Nat} (h : n ≤ 10000) : iadd .i64 (n : Int) (Int.ofNat 1) = ((n + 1 : Nat) : Int) := by rw [iadd64 (by rw [o1']; omega) (by rw [o1']; omega), o1']; omega
theorem egood15_ok (lr : List (List DV)) (lv : DV) (hl : SlV 1 lr lv) (ts : List Trk) (tv : DV) (ht : SlV 7 (ts.map trkRow) tv) (fr to : Int) (hlen : ts.length ≤ 1000000000) :
 Pur F0 9 [.agg [.d lv, .d tv, I fr, I to]] [] .no (.ret (B (pb (GoodAx lr.length ts fr to)))) .no := by
 have hC := drp_of_pur (containsT_ok ts tv ht hlen)
 by_cases g1 : ts.length ≤ 10000
 · have e1 := one_more g1
   by_cases g2 : lr.length = ts.length + 1
   · rcases hl with ⟨rfl, rfl⟩ | rfl
     · simp at g2
     have w2 : (!ieq (lr.length : Int) ((ts.length + 1 : Nat) : Int)) = false := by rw [Bool.not_eq_false', ieq_t]; omega
     rw [← e1] at w2
     by_cases hP : ∃ t ∈ ts, rightT t = false
     · rw [pb_t hP] at hC
       rw [pb_f (p := GoodAx lr.length ts fr to) fun h => h.2.2.1 hP]
       rcases ht with ⟨rfl, ht⟩ | rfl
       · obtain rfl : ts = [] := List.map_eq_nil_iff.1 ht
         obtain ⟨t, h, _⟩ := hP
         cases h
       · have w1 : ilt (Int.ofNat 10000) ((ts.map trkRow).length : Int) = false := by rw [ilt_f, List.length_map, Int.ofNat_eq_natCast]; omega
         rw [← List.length_map (f := trkRow)] at w2
         refine pur_code code9_ok ?_
         conv => whnf
         repeat' ((first | refine bt ?_ | refine bf ?_ | refine vdrp_i hC ?_ | refine vl ?_ | fail) <;> conv => whnf)
         exact ⟨rfl, rfl⟩
     · rw [pb_f hP] at hC
       rcases ht with ⟨rfl, ht⟩ | rfl
       · obtain rfl : ts = [] := List.map_eq_nil_iff.1 ht
         have w1 : ilt (Int.ofNat 10000) (0 : Int) = false := by rw [ilt_f]; decide
         refine pur_code code9_ok ?_
         conv => whnf
         repeat' ((first | refine bt ?_ | refine bf ?_ | refine vdrp_i hC ?_ | refine vl ?_ | fail) <;> conv => whnf)
         repeat' ((first | refine bt ?_ | refine bf ?_ | refine vl ?_ | refine vb_i (fun h => ?_) (fun h => ?_) | fail) <;> conv => whnf)
         all_goals (refine ⟨retB ?_, rfl⟩; rw [Bool.eq_iff_iff, pb_iff]; unfold GoodAx; simp only [ieq_t, ieq_f, ile_t, ile_f, ilt_t, ilt_f, Int.ofNat_eq_natCast, List.length_map, List.length_nil] at *)
         all_goals (first | exact ⟨fun hh => (by cases hh), fun hh => absurd hh.2.2.2 (by omega)⟩ | exact ⟨fun _ => ⟨by omega, by omega, hP, by omega⟩, fun _ => (by first | rfl | trivial)⟩ | exact ⟨fun hh => ⟨by omega, by omega, hP, by omega⟩, fun hh => by have := hh.2.2.2; omega⟩)
       · have w1 : ilt (Int.ofNat 10000) ((ts.map trkRow).length : Int) = false := by rw [ilt_f, List.length_map, Int.ofNat_eq_natCast]; omega
         rw [← List.length_map (f := trkRow)] at w2
         refine pur_code code9_ok ?_
         conv => whnf
         repeat' ((first | refine bt ?_ | refine bf ?_ | refine vdrp_i hC ?_ | refine vl ?_ | fail) <;> conv => whnf)
         repeat' ((first | refine bt ?_ | refine bf ?_ | refine vl ?_ | refine vb_i (fun h => ?_) (fun h => ?_) | fail) <;> conv => whnf)
         all_goals (refine ⟨retB ?_, rfl⟩; rw [Bool.eq_iff_iff, pb_iff]; unfold GoodAx; simp only [ieq_t, ieq_f, ile_t, ile_f, ilt_t, ilt_f, Int.ofNat_eq_natCast, List.length_map, List.length_nil] at *)
         all_goals (first | exact ⟨fun hh => (by cases hh), fun hh => absurd hh.2.2.2 (by omega)⟩ | exact ⟨fun _ => ⟨by omega, by omega, hP, by omega⟩, fun _ => (by first | rfl | trivial)⟩ | exact ⟨fun hh => ⟨by omega, by omega, hP, by omega⟩, fun hh => by have := hh.2.2.2; omega⟩)
   · rw [pb_f (p := GoodAx lr.length ts fr to) fun h => g2 h.2.1]
     have w2 : (!ieq (lr.length : Int) ((ts.length + 1 : Nat) : Int)) = true := by rw [Bool.not_eq_true', ieq_f]; omega
     rw [← e1] at w2
     rcases ht with ⟨rfl, ht⟩ | rfl
     · obtain rfl : ts = [] := List.map_eq_nil_iff.1 ht
       have w1 : ilt (Int.ofNat 10000) (0 : Int) = false := by rw [ilt_f]; decide
       rcases hl with ⟨rfl, rfl⟩ | rfl
       · refine pur_code code9_ok ?_
         conv => whnf
         repeat' ((first | refine bt ?_ | refine bf ?_ | refine vb_t w2 ?_ | refine vl ?_ | fail) <;> conv => whnf)
         exact ⟨rfl, rfl⟩
       · refine pur_code code9_ok ?_
         conv => whnf
         repeat' ((first | refine bt ?_ | refine bf ?_ | refine vb_t w2 ?_ | refine vl ?_ | fail) <;> conv => whnf)
         exact ⟨rfl, rfl⟩
     · have w1 : ilt (Int.ofNat 10000) ((ts.map trkRow).length : Int) = false := by rw [ilt_f, List.length_map, Int.ofNat_eq_natCast]; omega
       rw [← List.length_map (f := trkRow)] at w2
       rcases hl with ⟨rfl, rfl⟩ | rfl
       · refine pur_code code9_ok ?_
         conv => whnf
         repeat' ((first | refine bt ?_ | refine bf ?_ | refine vb_t w2 ?_ | refine vl ?_ | fail) <;> conv => whnf)
         exact ⟨rfl, rfl⟩
       · refine pur_code code9_ok ?_
         conv => whnf
         repeat' ((first | refine bt ?_ | refine bf ?_ | refine vb_t w2 ?_ | refine vl ?_ | fail) <;> conv => whnf)
         exact ⟨rfl, rfl⟩
 · rw [pb_f (p := GoodAx lr.length ts fr to) fun h => g1 h.1]
   rcases ht with ⟨rfl, ht⟩ | rfl
   · obtain rfl : ts = [] := List.map_eq_nil_iff.1 ht
     exact (g1 (Nat.zero_le _)).elim
   · have w1 : ilt (Int.ofNat 10000) ((ts.map trkRow).length : Int) = true := by rw [ilt_t, List.length_map, Int.ofNat_eq_natCast]; omega
     rcases hl with ⟨rfl, rfl⟩ | rfl
     · refine pur_code code9_ok ?_
       conv => whnf
       repeat' ((first | refine bt ?_ | refine bf ?_ | refine vl ?_ | fail) <;> conv => whnf)
       exact ⟨rfl, rfl⟩
     · refine pur_code code9_ok ?_
       conv => whnf
       repeat' ((first | refine bt ?_ | refine bf ?_ | refine vl ?_ | fail) <;> conv => whnf)
       exact ⟨rfl, rfl⟩
theorem rgood15_ok (lr : List (List DV)) (lv : DV) (hl : SlV 1 lr lv) (ts : List Trk) (tv : DV) (ht : SlV 7 (ts.map trkRow) tv) (fr to : Int) :
 Pur F0 10 [.agg [.d lv, .d tv, I fr, I to]] [] .no (.ret (B (pb (GoodAx lr.length ts fr to)))) .no := by
 by_cases g1 : ts.length ≤ 10000
 · have e1 := one_more g1
   by_cases g2 : lr.length = ts.length + 1
   · rcases hl with ⟨rfl, rfl⟩ | rfl
     · simp at g2
     have w2 : (!ieq (lr.length : Int) ((ts.length + 1 : Nat) : Int)) = false := by rw [Bool.not_eq_false', ieq_t]; omega
     rw [← e1] at w2
     rcases ht with ⟨rfl, ht⟩ | rfl
     · obtain rfl : ts = [] := List.map_eq_nil_iff.1 ht
       have hP : ¬ ∃ t ∈ ([] : List Trk), rightT t = false := fun ⟨t, h, _⟩ => by cases h
       have w1 : ilt (Int.ofNat 10000) (0 : Int) = false := by rw [ilt_f]; decide
       have h00 : ilt (Int.ofNat 0) (0 : Int) = false := by rw [ilt_f]; decide
       refine pur_code code10_ok ?_
       conv => whnf
       repeat' ((first | refine bt ?_ | refine bf ?_ | refine vl ?_ | fail) <;> conv => whnf)
       refine vloop_once ?_
       conv => whnf
       repeat' ((first | refine bt ?_ | refine bf ?_ | refine vl ?_ | fail) <;> conv => whnf)
       repeat' ((first | refine bt ?_ | refine bf ?_ | refine vl ?_ | refine vb_i (fun h => ?_) (fun h => ?_) | fail) <;> conv => whnf)
       all_goals (refine ⟨retB ?_, rfl⟩; rw [Bool.eq_iff_iff, pb_iff]; unfold GoodAx; simp only [ieq_t, ieq_f, ile_t, ile_f, ilt_t, ilt_f, Int.ofNat_eq_natCast, List.length_map, List.length_nil] at *)
       all_goals (first | exact ⟨fun hh => (by cases hh), fun hh => absurd hh.2.2.2 (by omega)⟩ | exact ⟨fun _ => ⟨by omega, by omega, hP, by omega⟩, fun _ => (by first | rfl | trivial)⟩ | exact ⟨fun hh => ⟨by omega, by omega, hP, by omega⟩, fun hh => by have := hh.2.2.2; omega⟩)
     · have w1 : ilt (Int.ofNat 10000) ((ts.map trkRow).length : Int) = false := by rw [ilt_f, List.length_map, Int.ofNat_eq_natCast]; omega
       rw [← List.length_map (f := trkRow)] at w2
       refine pur_code code10_ok ?_
       conv => whnf
       repeat' ((first | refine bt ?_ | refine bf ?_ | refine vl ?_ | fail) <;> conv => whnf)
       refine vloop_cnt (α := Unit) ts.length (fun k _ => ∀ (i : Nat) (t : Trk), i < k → ts[i]? = some t → rightT t = true) (fun k _ => [(3, I (k : Int))]) () (fun i p h => by omega) rfl ?_
       intro k _ hk hI
       conv => whnf
       by_cases hlt : k < ts.length
       · obtain ⟨t, ht⟩ := get_in hlt
         have hg := iget_map (f := trkRow) ht
         have hl := lt_len (f := trkRow) hlt
         have hc := rright_ok t
         cases hR : rightT t with
         | false =>
          rw [hR] at hc
          have hE : ∃ t ∈ ts, rightT t = false := ⟨t, List.mem_of_getElem? ht, hR⟩
          rw [pb_f (p := GoodAx lr.length ts fr to) fun h => h.2.2.1 hE]
          have hy : (!false) = true := rfl
          clear ht
          cases t with
          | mk a1 a2 a3 a4 a5 a6 a7 =>
          repeat' ((first | refine bt ?_ | refine bf ?_ | refine vo_i hg ?_ | refine vpur_i hc ?_ | refine vl ?_ | fail) <;> conv => whnf)
          exact ⟨rfl, rfl⟩
         | true =>
          rw [hR] at hc
          have hn := upto_succ (P := fun _ t => rightT t = true) hI ht hR
          have hx : (!true) = false := rfl
          clear ht
          cases t with
          | mk a1 a2 a3 a4 a5 a6 a7 =>
          repeat' ((first | refine bt ?_ | refine bf ?_ | refine vo_i hg ?_ | refine vpur_i hc ?_ | refine vl ?_ | fail) <;> conv => whnf)
          exact ⟨⟨(k + 1, ()), (by omega), hn⟩, (by simp only; omega), (by repeat' (first | exact rfl | exact slot_eq (I_eq (iadd_one (by omega))) | (refine cons_eq ?_ ?_) | assumption)), rfl, rfl, rfl⟩
       · have hl := nlt_len (f := trkRow) hlt
         have hP : ¬ ∃ t ∈ ts, rightT t = false := by
          rintro ⟨t, ht, hR⟩
          obtain ⟨i, hi⟩ := List.getElem?_of_mem ht
          have := hI i t (by have := (List.getElem?_eq_some_iff.1 hi).1; omega) hi
          rw [hR] at this; cases this
         clear hI
         repeat' ((first | refine bt ?_ | refine bf ?_ | refine vb_f (by (first | omega | (simp only [ilt_t, ilt_f, ile_t, ile_f, ieq_t, ieq_f, ofn, List.length_map, Bool.not_eq_true', Bool.not_eq_false'] at *; omega))) ?_ | refine vl ?_ | fail) <;> conv => whnf)
         repeat' ((first | refine bt ?_ | refine bf ?_ | refine vl ?_ | refine vb_i (fun h => ?_) (fun h => ?_) | fail) <;> conv => whnf)
         all_goals (refine ⟨retB ?_, rfl⟩; rw [Bool.eq_iff_iff, pb_iff]; unfold GoodAx; simp only [ieq_t, ieq_f, ile_t, ile_f, ilt_t, ilt_f, Int.ofNat_eq_natCast, List.length_map, List.length_nil] at *)
         all_goals (first | exact ⟨fun hh => (by cases hh), fun hh => absurd hh.2.2.2 (by omega)⟩ | exact ⟨fun _ => ⟨by omega, by omega, hP, by omega⟩, fun _ => (by first | rfl | trivial)⟩ | exact ⟨fun hh => ⟨by omega, by omega, hP, by omega⟩, fun hh => by have := hh.2.2.2; omega⟩)
   · rw [pb_f (p := GoodAx lr.length ts fr to) fun h => g2 h.2.1]
     have w2 : (!ieq (lr.length : Int) ((ts.length + 1 : Nat) : Int)) = true := by rw [Bool.not_eq_true', ieq_f]; omega
     rw [← e1] at w2
     rcases ht with ⟨rfl, ht⟩ | rfl
     · obtain rfl : ts = [] := List.map_eq_nil_iff.1 ht
       have w1 : ilt (Int.ofNat 10000) (0 : Int) = false := by rw [ilt_f]; decide
       rcases hl with ⟨rfl, rfl⟩ | rfl
       · refine pur_code code10_ok ?_
         conv => whnf
         repeat' ((first | refine bt ?_ | refine bf ?_ | refine vb_t w2 ?_ | refine vl ?_ | fail) <;> conv => whnf)
         exact ⟨rfl, rfl⟩
       · refine pur_code code10_ok ?_
         conv => whnf
         repeat' ((first | refine bt ?_ | refine bf ?_ | refine vb_t w2 ?_ | refine vl ?_ | fail) <;> conv => whnf)
         exact ⟨rfl, rfl⟩
     · have w1 : ilt (Int.ofNat 10000) ((ts.map trkRow).length : Int) = false := by rw [ilt_f, List.length_map, Int.ofNat_eq_natCast]; omega
       rw [← List.length_map (f := trkRow)] at w2
       rcases hl with ⟨rfl, rfl⟩ | rfl
       · refine pur_code code10_ok ?_
         conv => whnf
         repeat' ((first | refine bt ?_ | refine bf ?_ | refine vb_t w2 ?_ | refine vl ?_ | fail) <;> conv => whnf)
         exact ⟨rfl, rfl⟩
       · refine pur_code code10_ok ?_
         conv => whnf
         repeat' ((first | refine bt ?_ | refine bf ?_ | refine vb_t w2 ?_ | refine vl ?_ | fail) <;> conv => whnf)
         exact ⟨rfl, rfl⟩
 · rw [pb_f (p := GoodAx lr.length ts fr to) fun h => g1 h.1]
   rcases ht with ⟨rfl, ht⟩ | rfl
   · obtain rfl : ts = [] := List.map_eq_nil_iff.1 ht
     exact (g1 (Nat.zero_le _)).elim
   · have w1 : ilt (Int.ofNat 10000) ((ts.map trkRow).length : Int) = true := by rw [ilt_t, List.length_map, Int.ofNat_eq_natCast]; omega
     rcases hl with ⟨rfl, rfl⟩ | rfl
     · refine pur_code code10_ok ?_
       conv => whnf
       repeat' ((first | refine bt ?_ | refine bf ?_ | refine vl ?_ | fail) <;> conv => whnf)
       exact ⟨rfl, rfl⟩
     · refine pur_code code10_ok ?_
       conv => whnf
       repeat' ((first | refine bt ?_ | refine bf ?_ | refine vl ?_ | fail) <;> conv => whnf)
       exact ⟨rfl, rfl⟩
theorem strsRows_of {d : Nat} {xs : List DV} (h : Shape Tryz.prog d 23 xs) : ∃ (lr : List (List DV)) (v : DV), SlV 1 lr v ∧ xs = [v] := by
 cases d with
 | zero => exact h.elim
 | succ d =>
  rw [Shape, Tryz.underlying23] at h
  rcases h with rfl | ⟨rows, rfl, hr, _⟩
  · exact ⟨[], .nilsl, .inl ⟨rfl, rfl⟩, rfl⟩
  · have hc : Tryz.prog.cellsOf 37 = 1 := by kernel_rfl
    rw [hc]
    exact ⟨rows, _, .inr rfl, rfl⟩
theorem cellsTrk : Tryz.prog.cellsOf 41 = 7 := by kernel_rfl
theorem trkRows_of {d : Nat} : ∀ {rows : List (List DV)}, (∀ row ∈ rows, Shape Tryz.prog d 41 row) → ∃ l : List Trk, rows = l.map trkRow
 | [], _ => ⟨[], rfl⟩
 | row :: rows, h => by
  obtain ⟨s, rfl⟩ := trk_of (h row (List.mem_cons_self ..))
  obtain ⟨l, rfl⟩ := trkRows_of fun r hr => h r (List.mem_cons_of_mem _ hr)
  exact ⟨s :: l, rfl⟩
theorem trks_of {d : Nat} {xs : List DV} (h : Shape Tryz.prog d 24 xs) : ∃ (ts : List Trk) (v : DV), SlV 7 (ts.map trkRow) v ∧ xs = [v] := by
 cases d with
 | zero => exact h.elim
 | succ d =>
  rw [Shape, Tryz.underlying24] at h
  rcases h with rfl | ⟨rows, rfl, hr, _⟩
  · exact ⟨[], .nilsl, .inl ⟨rfl, rfl⟩, rfl⟩
  · obtain ⟨l, rfl⟩ := trkRows_of hr
    rw [cellsTrk]
    exact ⟨l, _, .inr rfl, rfl⟩
theorem axis_of {d : Nat} {xs : List DV} (h : Shape Tryz.prog d 26 xs) : ∃ (lr : List (List DV)) (lv : DV) (ts : List Trk) (tv : DV) (fr to : Int), SlV 1 lr lv ∧ SlV 7 (ts.map trkRow) tv ∧ xs = [lv, tv, .int .i64 fr, .int .i64 to] := by
 cases d with
 | zero => exact h.elim
 | succ d =>
  rw [Shape, Tryz.underlying26] at h
  obtain ⟨x0, r0, rfl, h0, x1, r1, rfl, h1, x2, r2, rfl, h2, x3, r3, rfl, h3, rfl⟩ := h
  obtain ⟨lr, lv, hl, rfl⟩ := strsRows_of h0
  obtain ⟨ts, tv, ht, rfl⟩ := trks_of h1
  obtain ⟨fr, rfl, _⟩ := int_of h2
  obtain ⟨to, rfl, _⟩ := int_of h3
  exact ⟨lr, lv, ts, tv, fr, to, hl, ht, rfl⟩
theorem arg_axis (lv tv : DV) (fr to : Int) : argA Tryz.prog 26 [lv, tv, .int .i64 fr, .int .i64 to] = .agg [.d lv, .d tv, I fr, I to] := by simp only [argA, Tryz.underlying26]; rfl
end Go.Proofs.YtkljckbaenbjeaaGreatDoor.Ab
namespace Go.Proofs.YtkljckbaenbjeaaGreatDoor.Ab
open Go
set_option linter.unusedSimpArgs false
set_option maxRecDepth 100000
set_option linter.unusedVariables false
set_option maxHeartbeats 8000000
def rsO : Obj := axO (.d .nilsl) (.d .nilsl) 0 0
def pcO (p : Pc) : Obj := ⟨.mine, 43, .fix ((pcRow p).map .d)⟩
def oxH (fr to : Int) (s : AxS) : Heap := match s.ts with
 | [] => [rsO, axO (.osl 3 s.gl 0 s.ls.length) (.d .nilsl) fr to, flO false, lnO s.gl s.ls]
 | t :: r => [rsO, axO (.osl 3 s.gl 0 s.ls.length) (.osl 4 s.gt 0 (t :: r).length) fr to, flO (decide (10000 < (t :: r).length)), lnO s.gl s.ls, trO s.gt (t :: r)]
def ixH (fr to : Int) (p : Pc) (s : AxS) : Heap := match s.ts with
 | [] => [rsO, axO (.osl 4 s.gl 0 s.ls.length) (.d .nilsl) fr to, flO false, pcO p, lnO s.gl s.ls]
 | t :: r => [rsO, axO (.osl 4 s.gl 0 s.ls.length) (.osl 5 s.gt 0 (t :: r).length) fr to, flO (decide (10000 < (t :: r).length)), pcO p, lnO s.gl s.ls, trO s.gt (t :: r)]
def AxI (n : Int) (l : List Pc) (k : Nat) (x : AxS × Int × Int) : Prop :=
 AxB (2560000 * k) x.1 ∧ ((x = axF n (l.take k) ∧ x.1.ts.length ≤ 10000) ∨ (10000 < x.1.ts.length ∧ 10000 < (axF n (l.take k)).1.ts.length))
theorem axB_mono {c c' : Nat} {s : AxS} (h : c ≤ c') (hB : AxB c s) : AxB c' s := ⟨hB.1, by have := hB.2.1; omega, fun x hx => by have := hB.2.2 x hx; omega⟩
theorem axI_next {n : Int} {l : List Pc} {k : Nat} {p : Pc} {x x' : AxS × Int × Int} (hp : l[k]? = some p) (hI : AxI n l k x) (hB : AxB (2560000 * (k + 1)) x'.1) (hx : x' = axP n x p) : AxI n l (k + 1) x' := by
 refine ⟨hB, ?_⟩
 have hS := axF_succ (n := n) hp
 rcases hI.2 with ⟨h1, h2⟩ | ⟨h1, h2⟩
 · rw [hS, ← h1, ← hx]
   rcases Nat.lt_or_ge 10000 x'.1.ts.length with h | h
   · exact .inr ⟨h, h⟩
   · exact .inl ⟨rfl, h⟩
 · refine .inr ⟨?_, ?_⟩
   · rw [hx]; exact Nat.lt_of_lt_of_le h1 axP_mono
   · rw [hS]; exact Nat.lt_of_lt_of_le h2 axP_mono
theorem axis_ok (l : List Pc) (size gap : Int) (b : Bool) (n : Int) (hC : Pur F0 12 [.d (.sl 11 (l.map pcRow)), I size, B b, I gap] [] .no (.ret (.tup [I n, I 0])) .no)
 (hG : GoodP l) (hall : ∀ p ∈ l, PcOk p) (hn0 : 0 ≤ n) (hn1 : n ≤ 10000) :
 Pur F0 6 [.d (.sl 11 (l.map pcRow)), I size, B b, I gap] [] .no (.ret (axA (axF n l))) .no := by
 obtain ⟨hal, hlen⟩ := good_alone hG
 have hgl := good_lay hG hall
 have z : (!ieq (0 : Int) (Int.ofNat 0)) = false := by rw [Bool.not_eq_false', ieq_t]; rfl
 refine pur_code code6_ok ?_
 conv => whnf
 repeat' ((first | refine bt ?_ | refine bf ?_ | refine vpur_i hC ?_ | refine vl ?_ | fail) <;> conv => whnf)
 refine vloop_cnh (α := AxS × Int × Int) l.length (AxI n l) (fun k _ => [(36, I (k : Int))]) (fun _ x => oxH x.2.1 x.2.2 x.1) (ax0, 0, 0) ⟨⟨rfl, Nat.zero_le _, fun x hx => by rw [List.mem_singleton.1 hx]; simp⟩, .inl ⟨rfl, Nat.zero_le _⟩⟩ rfl rfl ?_
 rintro k ⟨s, fr, to⟩ hk hI
 rcases Nat.lt_or_ge k l.length with hlt | hge
 · obtain ⟨p, hp⟩ := get_in hlt
   have hg := iget_map (f := pcRow) hp
   have hl := lt_len (f := pcRow) hlt
   have hm := List.mem_of_getElem? hp
   obtain ⟨hLp, hLi, hil, hRk⟩ := hgl p hm
   have hap := hal p hm
   have hS := axF_succ (n := n) hp
   obtain ⟨hB, hI⟩ := hI
   simp only at hB hI
   have hPo := hLp.1
   have hcut : icut (l.map pcRow) (k : Int) (iadd .i64 (k : Int) (Int.ofNat 1)) = some [pcRow p] := by
    have e1 : iadd .i64 (k : Int) (Int.ofNat 1) = ((k + 1 : Nat) : Int) := by rw [iadd64 (by rw [o1']; omega) (by rw [o1']; omega), o1']; omega
    rw [e1, icut_t (by omega) (by omega) (by rw [List.length_map]; omega)]
    congr 1
    rw [Int.toNat_natCast, Int.toNat_natCast, List.take_add_one, List.getElem?_map, hp]
    rw [List.drop_append_of_le_length (by rw [List.length_take, List.length_map]; omega), List.drop_of_length_le (by rw [List.length_take]; omega)]
    rfl
   by_cases hk12 : p.kind = 1 ∨ p.kind = 2
   · have hlay := lay_ok [p] (fun q hq => by rw [List.mem_singleton.1 hq]; exact hLp) s (2560000 * k) hB (by simp only [List.length_cons, List.length_nil]; omega) fr to
     have hc0 := count0 hap hk12
     have hit : itP n p = [p] := if_pos hk12
     have hx : axP n (s, fr, to) p = ([p].foldl layQ s, fr, to) := by
      unfold axP
      rw [hit, if_neg (by omega)]
     have hB' := axB_fold (L := [p]) (fun q hq => by rw [List.mem_singleton.1 hq]; exact hLp) hB
     have hN := axI_next (x' := ([p].foldl layQ s, fr, to)) hp ⟨hB, hI⟩ (axB_mono (by simp only [List.length_cons, List.length_nil]; omega) hB') hx.symm
     have hne : s.ts ≠ [] → ([p].foldl layQ s).ts ≠ [] := lay_ne
     generalize [p].foldl layQ s = s' at *
     cases hPo with
     | @mk kd vn names t cn vi inner hvn hvi hin =>
     simp only [Pc.kind, Pc.count] at hk12 hc0
     subst hc0
     have q5 : ieq kd (Int.ofNat 5) = false := by
      rw [ieq_f]
      clear hRk hgl hLp hLi
      rcases hk12 with h | h <;> rw [h] <;> decide
     have h00 : ilt (Int.ofNat 0) (0 : Int) = false := by rw [ilt_f]; decide
     by_cases hk1 : kd = 1
     · have q1 : ieq kd (Int.ofNat 1) = true := by rw [ieq_t]; exact hk1
       rcases s with ⟨ls, _ | ⟨t1, ts⟩, gl, gt⟩
       · rcases s' with ⟨ls', _ | ⟨t1', ts'⟩, gl', gt'⟩
         · conv => whnf
           repeat' ((first | refine bt ?_ | refine bf ?_ | refine vo_i hg ?_ | refine vo_i hcut ?_ | refine vcall_i hlay ?_ | refine vl ?_ | fail) <;> conv => whnf)
           refine vloop_once ?_
           conv => whnf
           repeat' ((first | refine bt ?_ | refine bf ?_ | refine vl ?_ | fail) <;> conv => whnf)
           exact ⟨⟨(k + 1, (_, fr, to)), (by omega), hN⟩, (by simp only; omega), (by repeat' (first | exact rfl | exact slot_eq (I_eq (iadd_one (by omega))) | (refine cons_eq ?_ ?_) | assumption)), rfl, rfl, rfl⟩
         · conv => whnf
           repeat' ((first | refine bt ?_ | refine bf ?_ | refine vo_i hg ?_ | refine vo_i hcut ?_ | refine vcall_i hlay ?_ | refine vl ?_ | fail) <;> conv => whnf)
           refine vloop_once ?_
           conv => whnf
           repeat' ((first | refine bt ?_ | refine bf ?_ | refine vl ?_ | fail) <;> conv => whnf)
           exact ⟨⟨(k + 1, (_, fr, to)), (by omega), hN⟩, (by simp only; omega), (by repeat' (first | exact rfl | exact slot_eq (I_eq (iadd_one (by omega))) | (refine cons_eq ?_ ?_) | assumption)), rfl, rfl, rfl⟩
       · rcases s' with ⟨ls', _ | ⟨t1', ts'⟩, gl', gt'⟩
         · exact (hne (by simp) rfl).elim
         · conv => whnf
           repeat' ((first | refine bt ?_ | refine bf ?_ | refine vo_i hg ?_ | refine vo_i hcut ?_ | refine vcall_i hlay ?_ | refine vl ?_ | fail) <;> conv => whnf)
           refine vloop_once ?_
           conv => whnf
           repeat' ((first | refine bt ?_ | refine bf ?_ | refine vl ?_ | fail) <;> conv => whnf)
           exact ⟨⟨(k + 1, (_, fr, to)), (by omega), hN⟩, (by simp only; omega), (by repeat' (first | exact rfl | exact slot_eq (I_eq (iadd_one (by omega))) | (refine cons_eq ?_ ?_) | assumption)), rfl, rfl, rfl⟩
     · have q1 : ieq kd (Int.ofNat 1) = false := by rw [ieq_f]; exact hk1
       have q2 : ieq kd (Int.ofNat 2) = true := by rw [ieq_t]; exact hk12.resolve_left hk1
       rcases s with ⟨ls, _ | ⟨t1, ts⟩, gl, gt⟩
       · rcases s' with ⟨ls', _ | ⟨t1', ts'⟩, gl', gt'⟩
         · conv => whnf
           repeat' ((first | refine bt ?_ | refine bf ?_ | refine vo_i hg ?_ | refine vo_i hcut ?_ | refine vcall_i hlay ?_ | refine vl ?_ | fail) <;> conv => whnf)
           refine vloop_once ?_
           conv => whnf
           repeat' ((first | refine bt ?_ | refine bf ?_ | refine vl ?_ | fail) <;> conv => whnf)
           exact ⟨⟨(k + 1, (_, fr, to)), (by omega), hN⟩, (by simp only; omega), (by repeat' (first | exact rfl | exact slot_eq (I_eq (iadd_one (by omega))) | (refine cons_eq ?_ ?_) | assumption)), rfl, rfl, rfl⟩
         · conv => whnf
           repeat' ((first | refine bt ?_ | refine bf ?_ | refine vo_i hg ?_ | refine vo_i hcut ?_ | refine vcall_i hlay ?_ | refine vl ?_ | fail) <;> conv => whnf)
           refine vloop_once ?_
           conv => whnf
           repeat' ((first | refine bt ?_ | refine bf ?_ | refine vl ?_ | fail) <;> conv => whnf)
           exact ⟨⟨(k + 1, (_, fr, to)), (by omega), hN⟩, (by simp only; omega), (by repeat' (first | exact rfl | exact slot_eq (I_eq (iadd_one (by omega))) | (refine cons_eq ?_ ?_) | assumption)), rfl, rfl, rfl⟩
       · rcases s' with ⟨ls', _ | ⟨t1', ts'⟩, gl', gt'⟩
         · exact (hne (by simp) rfl).elim
         · conv => whnf
           repeat' ((first | refine bt ?_ | refine bf ?_ | refine vo_i hg ?_ | refine vo_i hcut ?_ | refine vcall_i hlay ?_ | refine vl ?_ | fail) <;> conv => whnf)
           refine vloop_once ?_
           conv => whnf
           repeat' ((first | refine bt ?_ | refine bf ?_ | refine vl ?_ | fail) <;> conv => whnf)
           exact ⟨⟨(k + 1, (_, fr, to)), (by omega), hN⟩, (by simp only; omega), (by repeat' (first | exact rfl | exact slot_eq (I_eq (iadd_one (by omega))) | (refine cons_eq ?_ ?_) | assumption)), rfl, rfl, rfl⟩
   · obtain ⟨hRep, hTr⟩ := hRk hk12
     have hit : itP n p = repL (tmN n p) p.inner := if_neg hk12
     have hx : axP n (s, fr, to) p = ((repL (tmN n p) p.inner).foldl layQ s, if p.kind = 5 then ((s.ts.length : Int), (((repL (tmN n p) p.inner).foldl layQ s).ts.length : Int)) else (fr, to)) := by
      unfold axP
      rw [hit]
     have htm := tmN_le hap hn1
     have hfl := efills_ok p.kind
     have hlim : ∀ j : Nat, j < tmN n p → 10000 < (p.inner.foldl layQ ((repL j p.inner).foldl layQ s)).ts.length → axA (axF n l) = .tup [.agg [.d .nilsl, .d .nilsl, I 0, I 0], I 52] := fun j hj h => by
      unfold axA
      rw [if_neg]
      refine Nat.not_le.2 ?_
      rcases hI with ⟨h1, _⟩ | ⟨_, h2⟩
      · refine Nat.lt_of_lt_of_le ?_ (axF_take (n := n) (l := l) (k := k + 1))
        rw [hS, ← h1, hx]
        rw [← repL_foldl] at h
        exact Nat.lt_of_lt_of_le h (rep_mono hj)
      · exact Nat.lt_of_lt_of_le h2 axF_take
     have hlay := fun (j : Nat) (s' : AxS) (hb : AxB (2560000 * k + j * 256) s') (hj : j ≤ 10000) => lay_ok p.inner hLi s' (2560000 * k + j * 256) hb (by omega) fr to
     have hbnd := fun (j : Nat) (hj : j ≤ 10000) => axB_mono (c' := 2560000 * k + j * 256) (by rw [repL_len]; have := Nat.mul_le_mul_left j hil; omega) (axB_fold (L := repL j p.inner) (fun q hq => hLi q (repL_mem hq)) hB)
     have hN0 : ∀ x' : AxS × Int × Int, x' = axP n (s, fr, to) p → AxB (2560000 * (k + 1)) x'.1 → AxI n l (k + 1) x' := fun x' h1 h2 => axI_next hp ⟨hB, hI⟩ h2 h1
     have hN5 : p.kind = 5 → ∀ s' : AxS, s' = (repL (tmN n p) p.inner).foldl layQ s → AxI n l (k + 1) (s', (s.ts.length : Int), (s'.ts.length : Int)) := fun h5 s' h => hN0 _ (by rw [hx, if_pos h5, h]) (by rw [h]; exact axB_mono (by omega) (hbnd (tmN n p) htm))
     have hNn : p.kind ≠ 5 → ∀ s' : AxS, s' = (repL (tmN n p) p.inner).foldl layQ s → AxI n l (k + 1) (s', fr, to) := fun h5 s' h => hN0 _ (by rw [hx, if_neg h5, h]) (by rw [h]; exact axB_mono (by omega) (hbnd (tmN n p) htm))
     have hne : s.ts ≠ [] → ∀ j, ((repL j p.inner).foldl layQ s).ts ≠ [] := fun h j => lay_ne h
     have htr : ∀ s' : AxS, (p.inner.foldl layQ s').ts ≠ [] := fun s' => lay_track hTr
     have hnin : p.inner ≠ [] := fun h => by obtain ⟨q, hq, _⟩ := hTr; rw [h] at hq; cases hq
     have ht3 : p.kind = 3 → (tmN n p : Int) = p.count := fun h => by
      unfold tmN
      rw [if_pos h]
      rcases hap with ⟨h1, _⟩ | ⟨h1, _⟩ | ⟨_, h1, _⟩ | ⟨h1, _⟩
      · omega
      · omega
      · omega
      · unfold AutoK at h1; omega
     have htn : p.kind ≠ 3 → (tmN n p : Int) = n := fun h => by unfold tmN; rw [if_neg h]; omega
     clear hN0 hRk hgl hLp hx hit hcut hTr hLi hS hap
     generalize tmN n p = m at *
     cases hPo with
     | @mk kd vn names t cn vi inner hvn hvi hin =>
     generalize hKD : (Pc.mk kd vn names t cn vi inner).kind = KD at *
     generalize hIN : (Pc.mk kd vn names t cn vi inner).inner = IN at *
     generalize hCN : (Pc.mk kd vn names t cn vi inner).count = CN at *
     obtain rfl : kd = KD := hKD
     obtain rfl : inner = IN := hIN
     obtain rfl : cn = CN := hCN
     rcases hvi with ⟨rfl, hvi⟩ | rfl
     · exact (hnin (List.map_eq_nil_iff.1 hvi)).elim
     have q1 : ieq kd (Int.ofNat 1) = false := by rw [ieq_f]; exact fun e => hk12 (.inl e)
     have q2 : ieq kd (Int.ofNat 2) = false := by rw [ieq_f]; exact fun e => hk12 (.inr e)
     by_cases h3 : kd = 3
     · rw [pb_f (p := AutoK kd) (by rw [h3]; decide)] at hfl
       have q5 : ieq kd (Int.ofNat 5) = false := by rw [ieq_f, h3]; decide
       have hm := ht3 h3
       have hNx := hNn (by rw [h3]; decide)
       rcases s with ⟨ls, _ | ⟨t1, ts⟩, gl, gt⟩
       · conv => whnf
         repeat' ((first | refine bt ?_ | refine bf ?_ | refine vo_i hg ?_ | refine vpur_i hfl ?_ | refine vl ?_ | fail) <;> conv => whnf)
         refine vloop_cnh (α := Unit) m (fun j _ => 0 < j → ((repL j inner).foldl layQ (⟨ls, [], gl, gt⟩ : AxS)).ts.length ≤ 10000) (fun j _ => [(68, I (j : Int))]) (fun j _ => ixH fr to (.mk kd vn names t cn (.sl 11 (inner.map pcRow)) inner) ((repL j inner).foldl layQ (⟨ls, [], gl, gt⟩ : AxS))) () (fun h => by omega) rfl rfl ?_
         intro j _ hj hJ
         have hsj : (repL (j + 1) inner).foldl layQ (⟨ls, [], gl, gt⟩ : AxS) = inner.foldl layQ ((repL j inner).foldl layQ (⟨ls, [], gl, gt⟩ : AxS)) := repL_foldl
         have hbj := hbnd j (by omega)
         have hnej := fun h => hne h j
         have hNj := fun h : j = m => hNx ((repL j inner).foldl layQ (⟨ls, [], gl, gt⟩ : AxS)) (by rw [h])
         have hlj := hlay j _ hbj (by omega)
         have hlm := hlim j
         have htj := htr ((repL j inner).foldl layQ (⟨ls, [], gl, gt⟩ : AxS))
         have htgt : ∀ s', (repL j inner).foldl layQ (⟨ls, [], gl, gt⟩ : AxS) = s' → m = j → (repL m inner).foldl layQ (⟨ls, [], gl, gt⟩ : AxS) = s' := fun s' h1 h2 => by rw [h2]; exact h1
         rcases Nat.lt_or_ge j m with hjm | hjm
         · have wl : ilt (j : Int) cn = true := by rw [ilt_t, ← hm]; omega
           have hlm := hlm hjm
           clear hlay hlim hbnd hne htr hNj htgt hNx hN5 hNn hbj
           by_cases hfull : 10000 < (inner.foldl layQ ((repL j inner).foldl layQ (⟨ls, [], gl, gt⟩ : AxS))).ts.length
           · rw [hlm hfull]
             clear hsj hlm
             generalize inner.foldl layQ ((repL j inner).foldl layQ (⟨ls, [], gl, gt⟩ : AxS)) = s2 at *
             generalize (repL j inner).foldl layQ (⟨ls, [], gl, gt⟩ : AxS) = s1 at *
             rcases s2 with ⟨ls2, _ | ⟨t2, ts2⟩, gl2, gt2⟩
             · exact (htj rfl).elim
             have wd : decide (10000 < (t2 :: ts2).length) = true := decide_eq_true hfull
             rcases s1 with ⟨ls1, _ | ⟨t3, ts1⟩, gl1, gt1⟩
             · conv => whnf
               repeat' ((first | refine bt ?_ | refine bf ?_ | refine vcall_i hlj ?_ | refine vl ?_ | fail) <;> conv => whnf)
               exact ⟨rfl, rfl⟩
             · conv => whnf
               repeat' ((first | refine bt ?_ | refine bf ?_ | refine vcall_i hlj ?_ | refine vl ?_ | fail) <;> conv => whnf)
               exact ⟨rfl, rfl⟩
           · have hJ2 : 0 < j + 1 → ((repL (j + 1) inner).foldl layQ (⟨ls, [], gl, gt⟩ : AxS)).ts.length ≤ 10000 := fun _ => by rw [hsj]; exact Nat.not_lt.1 hfull
             clear hlm hJ
             generalize inner.foldl layQ ((repL j inner).foldl layQ (⟨ls, [], gl, gt⟩ : AxS)) = s2 at *
             generalize (repL j inner).foldl layQ (⟨ls, [], gl, gt⟩ : AxS) = s1 at *
             rcases s2 with ⟨ls2, _ | ⟨t2, ts2⟩, gl2, gt2⟩
             · exact (htj rfl).elim
             have wd : decide (10000 < (t2 :: ts2).length) = false := decide_eq_false hfull
             rcases s1 with ⟨ls1, _ | ⟨t3, ts1⟩, gl1, gt1⟩
             · conv => whnf
               repeat' ((first | refine bt ?_ | refine bf ?_ | refine vcall_i hlj ?_ | refine vl ?_ | fail) <;> conv => whnf)
               exact ⟨⟨(j + 1, ()), (by omega), hJ2⟩, (by simp only; omega), (by repeat' (first | exact rfl | exact slot_eq (I_eq (iadd_one (by omega))) | (refine cons_eq ?_ ?_) | assumption)), congrArg (ixH fr to (.mk kd vn names t cn (.sl 11 (inner.map pcRow)) inner)) hsj.symm, rfl, rfl⟩
             · conv => whnf
               repeat' ((first | refine bt ?_ | refine bf ?_ | refine vcall_i hlj ?_ | refine vl ?_ | fail) <;> conv => whnf)
               exact ⟨⟨(j + 1, ()), (by omega), hJ2⟩, (by simp only; omega), (by repeat' (first | exact rfl | exact slot_eq (I_eq (iadd_one (by omega))) | (refine cons_eq ?_ ?_) | assumption)), congrArg (ixH fr to (.mk kd vn names t cn (.sl 11 (inner.map pcRow)) inner)) hsj.symm, rfl, rfl⟩
         · obtain rfl : j = m := by omega
           have wl : ilt (j : Int) cn = false := by rw [ilt_f, ← hm]; omega
           have hNj := hNj rfl
           clear hlay hlim hbnd hne htr htgt hNx hN5 hNn hsj hlj hlm htj hJ
           generalize (repL j inner).foldl layQ (⟨ls, [], gl, gt⟩ : AxS) = s1 at *
           rcases s1 with ⟨ls1, _ | ⟨t3, ts1⟩, gl1, gt1⟩
           · conv => whnf
             repeat' ((first | refine bt ?_ | refine bf ?_ | refine vl ?_ | fail) <;> conv => whnf)
             exact ⟨⟨(k + 1, (_, fr, to)), (by omega), hNj⟩, (by simp only; omega), (by repeat' (first | exact rfl | exact slot_eq (I_eq (iadd_one (by omega))) | (refine cons_eq ?_ ?_) | assumption)), rfl, rfl, rfl⟩
           · conv => whnf
             repeat' ((first | refine bt ?_ | refine bf ?_ | refine vl ?_ | fail) <;> conv => whnf)
             exact ⟨⟨(k + 1, (_, fr, to)), (by omega), hNj⟩, (by simp only; omega), (by repeat' (first | exact rfl | exact slot_eq (I_eq (iadd_one (by omega))) | (refine cons_eq ?_ ?_) | assumption)), rfl, rfl, rfl⟩
       · conv => whnf
         repeat' ((first | refine bt ?_ | refine bf ?_ | refine vo_i hg ?_ | refine vpur_i hfl ?_ | refine vl ?_ | fail) <;> conv => whnf)
         refine vloop_cnh (α := Unit) m (fun j _ => 0 < j → ((repL j inner).foldl layQ (⟨ls, t1 :: ts, gl, gt⟩ : AxS)).ts.length ≤ 10000) (fun j _ => [(68, I (j : Int))]) (fun j _ => ixH fr to (.mk kd vn names t cn (.sl 11 (inner.map pcRow)) inner) ((repL j inner).foldl layQ (⟨ls, t1 :: ts, gl, gt⟩ : AxS))) () (fun h => by omega) rfl rfl ?_
         intro j _ hj hJ
         have hsj : (repL (j + 1) inner).foldl layQ (⟨ls, t1 :: ts, gl, gt⟩ : AxS) = inner.foldl layQ ((repL j inner).foldl layQ (⟨ls, t1 :: ts, gl, gt⟩ : AxS)) := repL_foldl
         have hbj := hbnd j (by omega)
         have hnej := fun h => hne h j
         have hNj := fun h : j = m => hNx ((repL j inner).foldl layQ (⟨ls, t1 :: ts, gl, gt⟩ : AxS)) (by rw [h])
         have hlj := hlay j _ hbj (by omega)
         have hlm := hlim j
         have htj := htr ((repL j inner).foldl layQ (⟨ls, t1 :: ts, gl, gt⟩ : AxS))
         have htgt : ∀ s', (repL j inner).foldl layQ (⟨ls, t1 :: ts, gl, gt⟩ : AxS) = s' → m = j → (repL m inner).foldl layQ (⟨ls, t1 :: ts, gl, gt⟩ : AxS) = s' := fun s' h1 h2 => by rw [h2]; exact h1
         rcases Nat.lt_or_ge j m with hjm | hjm
         · have wl : ilt (j : Int) cn = true := by rw [ilt_t, ← hm]; omega
           have hlm := hlm hjm
           clear hlay hlim hbnd hne htr hNj htgt hNx hN5 hNn hbj
           by_cases hfull : 10000 < (inner.foldl layQ ((repL j inner).foldl layQ (⟨ls, t1 :: ts, gl, gt⟩ : AxS))).ts.length
           · rw [hlm hfull]
             clear hsj hlm
             generalize inner.foldl layQ ((repL j inner).foldl layQ (⟨ls, t1 :: ts, gl, gt⟩ : AxS)) = s2 at *
             generalize (repL j inner).foldl layQ (⟨ls, t1 :: ts, gl, gt⟩ : AxS) = s1 at *
             rcases s2 with ⟨ls2, _ | ⟨t2, ts2⟩, gl2, gt2⟩
             · exact (htj rfl).elim
             have wd : decide (10000 < (t2 :: ts2).length) = true := decide_eq_true hfull
             rcases s1 with ⟨ls1, _ | ⟨t3, ts1⟩, gl1, gt1⟩
             · conv => whnf
               repeat' ((first | refine bt ?_ | refine bf ?_ | refine vcall_i hlj ?_ | refine vl ?_ | fail) <;> conv => whnf)
               exact ⟨rfl, rfl⟩
             · conv => whnf
               repeat' ((first | refine bt ?_ | refine bf ?_ | refine vcall_i hlj ?_ | refine vl ?_ | fail) <;> conv => whnf)
               exact ⟨rfl, rfl⟩
           · have hJ2 : 0 < j + 1 → ((repL (j + 1) inner).foldl layQ (⟨ls, t1 :: ts, gl, gt⟩ : AxS)).ts.length ≤ 10000 := fun _ => by rw [hsj]; exact Nat.not_lt.1 hfull
             clear hlm hJ
             generalize inner.foldl layQ ((repL j inner).foldl layQ (⟨ls, t1 :: ts, gl, gt⟩ : AxS)) = s2 at *
             generalize (repL j inner).foldl layQ (⟨ls, t1 :: ts, gl, gt⟩ : AxS) = s1 at *
             rcases s2 with ⟨ls2, _ | ⟨t2, ts2⟩, gl2, gt2⟩
             · exact (htj rfl).elim
             have wd : decide (10000 < (t2 :: ts2).length) = false := decide_eq_false hfull
             rcases s1 with ⟨ls1, _ | ⟨t3, ts1⟩, gl1, gt1⟩
             · conv => whnf
               repeat' ((first | refine bt ?_ | refine bf ?_ | refine vcall_i hlj ?_ | refine vl ?_ | fail) <;> conv => whnf)
               exact ⟨⟨(j + 1, ()), (by omega), hJ2⟩, (by simp only; omega), (by repeat' (first | exact rfl | exact slot_eq (I_eq (iadd_one (by omega))) | (refine cons_eq ?_ ?_) | assumption)), congrArg (ixH fr to (.mk kd vn names t cn (.sl 11 (inner.map pcRow)) inner)) hsj.symm, rfl, rfl⟩
             · conv => whnf
               repeat' ((first | refine bt ?_ | refine bf ?_ | refine vcall_i hlj ?_ | refine vl ?_ | fail) <;> conv => whnf)
               exact ⟨⟨(j + 1, ()), (by omega), hJ2⟩, (by simp only; omega), (by repeat' (first | exact rfl | exact slot_eq (I_eq (iadd_one (by omega))) | (refine cons_eq ?_ ?_) | assumption)), congrArg (ixH fr to (.mk kd vn names t cn (.sl 11 (inner.map pcRow)) inner)) hsj.symm, rfl, rfl⟩
         · obtain rfl : j = m := by omega
           have wl : ilt (j : Int) cn = false := by rw [ilt_f, ← hm]; omega
           have hNj := hNj rfl
           clear hlay hlim hbnd hne htr htgt hNx hN5 hNn hsj hlj hlm htj hJ
           generalize (repL j inner).foldl layQ (⟨ls, t1 :: ts, gl, gt⟩ : AxS) = s1 at *
           rcases s1 with ⟨ls1, _ | ⟨t3, ts1⟩, gl1, gt1⟩
           · conv => whnf
             repeat' ((first | refine bt ?_ | refine bf ?_ | refine vl ?_ | fail) <;> conv => whnf)
             exact ⟨⟨(k + 1, (_, fr, to)), (by omega), hNj⟩, (by simp only; omega), (by repeat' (first | exact rfl | exact slot_eq (I_eq (iadd_one (by omega))) | (refine cons_eq ?_ ?_) | assumption)), rfl, rfl, rfl⟩
           · conv => whnf
             repeat' ((first | refine bt ?_ | refine bf ?_ | refine vl ?_ | fail) <;> conv => whnf)
             exact ⟨⟨(k + 1, (_, fr, to)), (by omega), hNj⟩, (by simp only; omega), (by repeat' (first | exact rfl | exact slot_eq (I_eq (iadd_one (by omega))) | (refine cons_eq ?_ ?_) | assumption)), rfl, rfl, rfl⟩
     · have hA : AutoK kd := hRep.resolve_left h3
       rw [pb_t hA] at hfl
       have hm := htn h3
       by_cases h5 : kd = 5
       · have q5 : ieq kd (Int.ofNat 5) = true := by rw [ieq_t]; exact h5
         have hNx := hN5 h5
         rcases s with ⟨ls, _ | ⟨t1, ts⟩, gl, gt⟩
         · conv => whnf
           repeat' ((first | refine bt ?_ | refine bf ?_ | refine vo_i hg ?_ | refine vpur_i hfl ?_ | refine vl ?_ | fail) <;> conv => whnf)
           refine vloop_cnh (α := Unit) m (fun j _ => 0 < j → ((repL j inner).foldl layQ (⟨ls, [], gl, gt⟩ : AxS)).ts.length ≤ 10000) (fun j _ => [(68, I (j : Int))]) (fun j _ => ixH fr to (.mk kd vn names t cn (.sl 11 (inner.map pcRow)) inner) ((repL j inner).foldl layQ (⟨ls, [], gl, gt⟩ : AxS))) () (fun h => by omega) rfl rfl ?_
           intro j _ hj hJ
           have hsj : (repL (j + 1) inner).foldl layQ (⟨ls, [], gl, gt⟩ : AxS) = inner.foldl layQ ((repL j inner).foldl layQ (⟨ls, [], gl, gt⟩ : AxS)) := repL_foldl
           have hbj := hbnd j (by omega)
           have hnej := fun h => hne h j
           have hNj := fun h : j = m => hNx ((repL j inner).foldl layQ (⟨ls, [], gl, gt⟩ : AxS)) (by rw [h])
           have hlj := hlay j _ hbj (by omega)
           have hlm := hlim j
           have htj := htr ((repL j inner).foldl layQ (⟨ls, [], gl, gt⟩ : AxS))
           have htgt : ∀ s', (repL j inner).foldl layQ (⟨ls, [], gl, gt⟩ : AxS) = s' → m = j → (repL m inner).foldl layQ (⟨ls, [], gl, gt⟩ : AxS) = s' := fun s' h1 h2 => by rw [h2]; exact h1
           rcases Nat.lt_or_ge j m with hjm | hjm
           · have wl : ilt (j : Int) n = true := by rw [ilt_t, ← hm]; omega
             have hlm := hlm hjm
             clear hlay hlim hbnd hne htr hNj htgt hNx hN5 hNn hbj
             by_cases hfull : 10000 < (inner.foldl layQ ((repL j inner).foldl layQ (⟨ls, [], gl, gt⟩ : AxS))).ts.length
             · rw [hlm hfull]
               clear hsj hlm
               generalize inner.foldl layQ ((repL j inner).foldl layQ (⟨ls, [], gl, gt⟩ : AxS)) = s2 at *
               generalize (repL j inner).foldl layQ (⟨ls, [], gl, gt⟩ : AxS) = s1 at *
               rcases s2 with ⟨ls2, _ | ⟨t2, ts2⟩, gl2, gt2⟩
               · exact (htj rfl).elim
               have wd : decide (10000 < (t2 :: ts2).length) = true := decide_eq_true hfull
               rcases s1 with ⟨ls1, _ | ⟨t3, ts1⟩, gl1, gt1⟩
               · conv => whnf
                 repeat' ((first | refine bt ?_ | refine bf ?_ | refine vcall_i hlj ?_ | refine vl ?_ | fail) <;> conv => whnf)
                 exact ⟨rfl, rfl⟩
               · conv => whnf
                 repeat' ((first | refine bt ?_ | refine bf ?_ | refine vcall_i hlj ?_ | refine vl ?_ | fail) <;> conv => whnf)
                 exact ⟨rfl, rfl⟩
             · have hJ2 : 0 < j + 1 → ((repL (j + 1) inner).foldl layQ (⟨ls, [], gl, gt⟩ : AxS)).ts.length ≤ 10000 := fun _ => by rw [hsj]; exact Nat.not_lt.1 hfull
               clear hlm hJ
               generalize inner.foldl layQ ((repL j inner).foldl layQ (⟨ls, [], gl, gt⟩ : AxS)) = s2 at *
               generalize (repL j inner).foldl layQ (⟨ls, [], gl, gt⟩ : AxS) = s1 at *
               rcases s2 with ⟨ls2, _ | ⟨t2, ts2⟩, gl2, gt2⟩
               · exact (htj rfl).elim
               have wd : decide (10000 < (t2 :: ts2).length) = false := decide_eq_false hfull
               rcases s1 with ⟨ls1, _ | ⟨t3, ts1⟩, gl1, gt1⟩
               · conv => whnf
                 repeat' ((first | refine bt ?_ | refine bf ?_ | refine vcall_i hlj ?_ | refine vl ?_ | fail) <;> conv => whnf)
                 exact ⟨⟨(j + 1, ()), (by omega), hJ2⟩, (by simp only; omega), (by repeat' (first | exact rfl | exact slot_eq (I_eq (iadd_one (by omega))) | (refine cons_eq ?_ ?_) | assumption)), congrArg (ixH fr to (.mk kd vn names t cn (.sl 11 (inner.map pcRow)) inner)) hsj.symm, rfl, rfl⟩
               · conv => whnf
                 repeat' ((first | refine bt ?_ | refine bf ?_ | refine vcall_i hlj ?_ | refine vl ?_ | fail) <;> conv => whnf)
                 exact ⟨⟨(j + 1, ()), (by omega), hJ2⟩, (by simp only; omega), (by repeat' (first | exact rfl | exact slot_eq (I_eq (iadd_one (by omega))) | (refine cons_eq ?_ ?_) | assumption)), congrArg (ixH fr to (.mk kd vn names t cn (.sl 11 (inner.map pcRow)) inner)) hsj.symm, rfl, rfl⟩
           · obtain rfl : j = m := by omega
             have wl : ilt (j : Int) n = false := by rw [ilt_f, ← hm]; omega
             have hNj := hNj rfl
             clear hlay hlim hbnd hne htr htgt hNx hN5 hNn hsj hlj hlm htj hJ
             generalize (repL j inner).foldl layQ (⟨ls, [], gl, gt⟩ : AxS) = s1 at *
             rcases s1 with ⟨ls1, _ | ⟨t3, ts1⟩, gl1, gt1⟩
             · conv => whnf
               repeat' ((first | refine bt ?_ | refine bf ?_ | refine vl ?_ | fail) <;> conv => whnf)
               exact ⟨⟨(k + 1, (_, (((⟨ls, [], gl, gt⟩ : AxS)).ts.length : Int), _)), (by omega), hNj⟩, (by simp only; omega), (by repeat' (first | exact rfl | exact slot_eq (I_eq (iadd_one (by omega))) | (refine cons_eq ?_ ?_) | assumption)), cons_eq rfl (cons_eq (fix_eq (cons_eq rfl (cons_eq rfl (cons_eq (I_eq (by simp)) (cons_eq (I_eq (by simp)) rfl))))) rfl), rfl, rfl⟩
             · conv => whnf
               repeat' ((first | refine bt ?_ | refine bf ?_ | refine vl ?_ | fail) <;> conv => whnf)
               exact ⟨⟨(k + 1, (_, (((⟨ls, [], gl, gt⟩ : AxS)).ts.length : Int), _)), (by omega), hNj⟩, (by simp only; omega), (by repeat' (first | exact rfl | exact slot_eq (I_eq (iadd_one (by omega))) | (refine cons_eq ?_ ?_) | assumption)), cons_eq rfl (cons_eq (fix_eq (cons_eq rfl (cons_eq rfl (cons_eq (I_eq (by simp)) (cons_eq (I_eq (by simp)) rfl))))) rfl), rfl, rfl⟩
         · conv => whnf
           repeat' ((first | refine bt ?_ | refine bf ?_ | refine vo_i hg ?_ | refine vpur_i hfl ?_ | refine vl ?_ | fail) <;> conv => whnf)
           refine vloop_cnh (α := Unit) m (fun j _ => 0 < j → ((repL j inner).foldl layQ (⟨ls, t1 :: ts, gl, gt⟩ : AxS)).ts.length ≤ 10000) (fun j _ => [(68, I (j : Int))]) (fun j _ => ixH fr to (.mk kd vn names t cn (.sl 11 (inner.map pcRow)) inner) ((repL j inner).foldl layQ (⟨ls, t1 :: ts, gl, gt⟩ : AxS))) () (fun h => by omega) rfl rfl ?_
           intro j _ hj hJ
           have hsj : (repL (j + 1) inner).foldl layQ (⟨ls, t1 :: ts, gl, gt⟩ : AxS) = inner.foldl layQ ((repL j inner).foldl layQ (⟨ls, t1 :: ts, gl, gt⟩ : AxS)) := repL_foldl
           have hbj := hbnd j (by omega)
           have hnej := fun h => hne h j
           have hNj := fun h : j = m => hNx ((repL j inner).foldl layQ (⟨ls, t1 :: ts, gl, gt⟩ : AxS)) (by rw [h])
           have hlj := hlay j _ hbj (by omega)
           have hlm := hlim j
           have htj := htr ((repL j inner).foldl layQ (⟨ls, t1 :: ts, gl, gt⟩ : AxS))
           have htgt : ∀ s', (repL j inner).foldl layQ (⟨ls, t1 :: ts, gl, gt⟩ : AxS) = s' → m = j → (repL m inner).foldl layQ (⟨ls, t1 :: ts, gl, gt⟩ : AxS) = s' := fun s' h1 h2 => by rw [h2]; exact h1
           rcases Nat.lt_or_ge j m with hjm | hjm
           · have wl : ilt (j : Int) n = true := by rw [ilt_t, ← hm]; omega
             have hlm := hlm hjm
             clear hlay hlim hbnd hne htr hNj htgt hNx hN5 hNn hbj
             by_cases hfull : 10000 < (inner.foldl layQ ((repL j inner).foldl layQ (⟨ls, t1 :: ts, gl, gt⟩ : AxS))).ts.length
             · rw [hlm hfull]
               clear hsj hlm
               generalize inner.foldl layQ ((repL j inner).foldl layQ (⟨ls, t1 :: ts, gl, gt⟩ : AxS)) = s2 at *
               generalize (repL j inner).foldl layQ (⟨ls, t1 :: ts, gl, gt⟩ : AxS) = s1 at *
               rcases s2 with ⟨ls2, _ | ⟨t2, ts2⟩, gl2, gt2⟩
               · exact (htj rfl).elim
               have wd : decide (10000 < (t2 :: ts2).length) = true := decide_eq_true hfull
               rcases s1 with ⟨ls1, _ | ⟨t3, ts1⟩, gl1, gt1⟩
               · conv => whnf
                 repeat' ((first | refine bt ?_ | refine bf ?_ | refine vcall_i hlj ?_ | refine vl ?_ | fail) <;> conv => whnf)
                 exact ⟨rfl, rfl⟩
               · conv => whnf
                 repeat' ((first | refine bt ?_ | refine bf ?_ | refine vcall_i hlj ?_ | refine vl ?_ | fail) <;> conv => whnf)
                 exact ⟨rfl, rfl⟩
             · have hJ2 : 0 < j + 1 → ((repL (j + 1) inner).foldl layQ (⟨ls, t1 :: ts, gl, gt⟩ : AxS)).ts.length ≤ 10000 := fun _ => by rw [hsj]; exact Nat.not_lt.1 hfull
               clear hlm hJ
               generalize inner.foldl layQ ((repL j inner).foldl layQ (⟨ls, t1 :: ts, gl, gt⟩ : AxS)) = s2 at *
               generalize (repL j inner).foldl layQ (⟨ls, t1 :: ts, gl, gt⟩ : AxS) = s1 at *
               rcases s2 with ⟨ls2, _ | ⟨t2, ts2⟩, gl2, gt2⟩
               · exact (htj rfl).elim
               have wd : decide (10000 < (t2 :: ts2).length) = false := decide_eq_false hfull
               rcases s1 with ⟨ls1, _ | ⟨t3, ts1⟩, gl1, gt1⟩
               · conv => whnf
                 repeat' ((first | refine bt ?_ | refine bf ?_ | refine vcall_i hlj ?_ | refine vl ?_ | fail) <;> conv => whnf)
                 exact ⟨⟨(j + 1, ()), (by omega), hJ2⟩, (by simp only; omega), (by repeat' (first | exact rfl | exact slot_eq (I_eq (iadd_one (by omega))) | (refine cons_eq ?_ ?_) | assumption)), congrArg (ixH fr to (.mk kd vn names t cn (.sl 11 (inner.map pcRow)) inner)) hsj.symm, rfl, rfl⟩
               · conv => whnf
                 repeat' ((first | refine bt ?_ | refine bf ?_ | refine vcall_i hlj ?_ | refine vl ?_ | fail) <;> conv => whnf)
                 exact ⟨⟨(j + 1, ()), (by omega), hJ2⟩, (by simp only; omega), (by repeat' (first | exact rfl | exact slot_eq (I_eq (iadd_one (by omega))) | (refine cons_eq ?_ ?_) | assumption)), congrArg (ixH fr to (.mk kd vn names t cn (.sl 11 (inner.map pcRow)) inner)) hsj.symm, rfl, rfl⟩
           · obtain rfl : j = m := by omega
             have wl : ilt (j : Int) n = false := by rw [ilt_f, ← hm]; omega
             have hNj := hNj rfl
             clear hlay hlim hbnd hne htr htgt hNx hN5 hNn hsj hlj hlm htj hJ
             generalize (repL j inner).foldl layQ (⟨ls, t1 :: ts, gl, gt⟩ : AxS) = s1 at *
             rcases s1 with ⟨ls1, _ | ⟨t3, ts1⟩, gl1, gt1⟩
             · conv => whnf
               repeat' ((first | refine bt ?_ | refine bf ?_ | refine vl ?_ | fail) <;> conv => whnf)
               exact ⟨⟨(k + 1, (_, (((⟨ls, t1 :: ts, gl, gt⟩ : AxS)).ts.length : Int), _)), (by omega), hNj⟩, (by simp only; omega), (by repeat' (first | exact rfl | exact slot_eq (I_eq (iadd_one (by omega))) | (refine cons_eq ?_ ?_) | assumption)), cons_eq rfl (cons_eq (fix_eq (cons_eq rfl (cons_eq rfl (cons_eq (I_eq (by simp)) (cons_eq (I_eq (by simp)) rfl))))) rfl), rfl, rfl⟩
             · conv => whnf
               repeat' ((first | refine bt ?_ | refine bf ?_ | refine vl ?_ | fail) <;> conv => whnf)
               exact ⟨⟨(k + 1, (_, (((⟨ls, t1 :: ts, gl, gt⟩ : AxS)).ts.length : Int), _)), (by omega), hNj⟩, (by simp only; omega), (by repeat' (first | exact rfl | exact slot_eq (I_eq (iadd_one (by omega))) | (refine cons_eq ?_ ?_) | assumption)), cons_eq rfl (cons_eq (fix_eq (cons_eq rfl (cons_eq rfl (cons_eq (I_eq (by simp)) (cons_eq (I_eq (by simp)) rfl))))) rfl), rfl, rfl⟩
       · have q5 : ieq kd (Int.ofNat 5) = false := by rw [ieq_f]; exact h5
         have hNx := hNn h5
         rcases s with ⟨ls, _ | ⟨t1, ts⟩, gl, gt⟩
         · conv => whnf
           repeat' ((first | refine bt ?_ | refine bf ?_ | refine vo_i hg ?_ | refine vpur_i hfl ?_ | refine vl ?_ | fail) <;> conv => whnf)
           refine vloop_cnh (α := Unit) m (fun j _ => 0 < j → ((repL j inner).foldl layQ (⟨ls, [], gl, gt⟩ : AxS)).ts.length ≤ 10000) (fun j _ => [(68, I (j : Int))]) (fun j _ => ixH fr to (.mk kd vn names t cn (.sl 11 (inner.map pcRow)) inner) ((repL j inner).foldl layQ (⟨ls, [], gl, gt⟩ : AxS))) () (fun h => by omega) rfl rfl ?_
           intro j _ hj hJ
           have hsj : (repL (j + 1) inner).foldl layQ (⟨ls, [], gl, gt⟩ : AxS) = inner.foldl layQ ((repL j inner).foldl layQ (⟨ls, [], gl, gt⟩ : AxS)) := repL_foldl
           have hbj := hbnd j (by omega)
           have hnej := fun h => hne h j
           have hNj := fun h : j = m => hNx ((repL j inner).foldl layQ (⟨ls, [], gl, gt⟩ : AxS)) (by rw [h])
           have hlj := hlay j _ hbj (by omega)
           have hlm := hlim j
           have htj := htr ((repL j inner).foldl layQ (⟨ls, [], gl, gt⟩ : AxS))
           have htgt : ∀ s', (repL j inner).foldl layQ (⟨ls, [], gl, gt⟩ : AxS) = s' → m = j → (repL m inner).foldl layQ (⟨ls, [], gl, gt⟩ : AxS) = s' := fun s' h1 h2 => by rw [h2]; exact h1
           rcases Nat.lt_or_ge j m with hjm | hjm
           · have wl : ilt (j : Int) n = true := by rw [ilt_t, ← hm]; omega
             have hlm := hlm hjm
             clear hlay hlim hbnd hne htr hNj htgt hNx hN5 hNn hbj
             by_cases hfull : 10000 < (inner.foldl layQ ((repL j inner).foldl layQ (⟨ls, [], gl, gt⟩ : AxS))).ts.length
             · rw [hlm hfull]
               clear hsj hlm
               generalize inner.foldl layQ ((repL j inner).foldl layQ (⟨ls, [], gl, gt⟩ : AxS)) = s2 at *
               generalize (repL j inner).foldl layQ (⟨ls, [], gl, gt⟩ : AxS) = s1 at *
               rcases s2 with ⟨ls2, _ | ⟨t2, ts2⟩, gl2, gt2⟩
               · exact (htj rfl).elim
               have wd : decide (10000 < (t2 :: ts2).length) = true := decide_eq_true hfull
               rcases s1 with ⟨ls1, _ | ⟨t3, ts1⟩, gl1, gt1⟩
               · conv => whnf
                 repeat' ((first | refine bt ?_ | refine bf ?_ | refine vcall_i hlj ?_ | refine vl ?_ | fail) <;> conv => whnf)
                 exact ⟨rfl, rfl⟩
               · conv => whnf
                 repeat' ((first | refine bt ?_ | refine bf ?_ | refine vcall_i hlj ?_ | refine vl ?_ | fail) <;> conv => whnf)
                 exact ⟨rfl, rfl⟩
             · have hJ2 : 0 < j + 1 → ((repL (j + 1) inner).foldl layQ (⟨ls, [], gl, gt⟩ : AxS)).ts.length ≤ 10000 := fun _ => by rw [hsj]; exact Nat.not_lt.1 hfull
               clear hlm hJ
               generalize inner.foldl layQ ((repL j inner).foldl layQ (⟨ls, [], gl, gt⟩ : AxS)) = s2 at *
               generalize (repL j inner).foldl layQ (⟨ls, [], gl, gt⟩ : AxS) = s1 at *
               rcases s2 with ⟨ls2, _ | ⟨t2, ts2⟩, gl2, gt2⟩
               · exact (htj rfl).elim
               have wd : decide (10000 < (t2 :: ts2).length) = false := decide_eq_false hfull
               rcases s1 with ⟨ls1, _ | ⟨t3, ts1⟩, gl1, gt1⟩
               · conv => whnf
                 repeat' ((first | refine bt ?_ | refine bf ?_ | refine vcall_i hlj ?_ | refine vl ?_ | fail) <;> conv => whnf)
                 exact ⟨⟨(j + 1, ()), (by omega), hJ2⟩, (by simp only; omega), (by repeat' (first | exact rfl | exact slot_eq (I_eq (iadd_one (by omega))) | (refine cons_eq ?_ ?_) | assumption)), congrArg (ixH fr to (.mk kd vn names t cn (.sl 11 (inner.map pcRow)) inner)) hsj.symm, rfl, rfl⟩
               · conv => whnf
                 repeat' ((first | refine bt ?_ | refine bf ?_ | refine vcall_i hlj ?_ | refine vl ?_ | fail) <;> conv => whnf)
                 exact ⟨⟨(j + 1, ()), (by omega), hJ2⟩, (by simp only; omega), (by repeat' (first | exact rfl | exact slot_eq (I_eq (iadd_one (by omega))) | (refine cons_eq ?_ ?_) | assumption)), congrArg (ixH fr to (.mk kd vn names t cn (.sl 11 (inner.map pcRow)) inner)) hsj.symm, rfl, rfl⟩
           · obtain rfl : j = m := by omega
             have wl : ilt (j : Int) n = false := by rw [ilt_f, ← hm]; omega
             have hNj := hNj rfl
             clear hlay hlim hbnd hne htr htgt hNx hN5 hNn hsj hlj hlm htj hJ
             generalize (repL j inner).foldl layQ (⟨ls, [], gl, gt⟩ : AxS) = s1 at *
             rcases s1 with ⟨ls1, _ | ⟨t3, ts1⟩, gl1, gt1⟩
             · conv => whnf
               repeat' ((first | refine bt ?_ | refine bf ?_ | refine vl ?_ | fail) <;> conv => whnf)
               exact ⟨⟨(k + 1, (_, fr, to)), (by omega), hNj⟩, (by simp only; omega), (by repeat' (first | exact rfl | exact slot_eq (I_eq (iadd_one (by omega))) | (refine cons_eq ?_ ?_) | assumption)), rfl, rfl, rfl⟩
             · conv => whnf
               repeat' ((first | refine bt ?_ | refine bf ?_ | refine vl ?_ | fail) <;> conv => whnf)
               exact ⟨⟨(k + 1, (_, fr, to)), (by omega), hNj⟩, (by simp only; omega), (by repeat' (first | exact rfl | exact slot_eq (I_eq (iadd_one (by omega))) | (refine cons_eq ?_ ?_) | assumption)), rfl, rfl, rfl⟩
         · conv => whnf
           repeat' ((first | refine bt ?_ | refine bf ?_ | refine vo_i hg ?_ | refine vpur_i hfl ?_ | refine vl ?_ | fail) <;> conv => whnf)
           refine vloop_cnh (α := Unit) m (fun j _ => 0 < j → ((repL j inner).foldl layQ (⟨ls, t1 :: ts, gl, gt⟩ : AxS)).ts.length ≤ 10000) (fun j _ => [(68, I (j : Int))]) (fun j _ => ixH fr to (.mk kd vn names t cn (.sl 11 (inner.map pcRow)) inner) ((repL j inner).foldl layQ (⟨ls, t1 :: ts, gl, gt⟩ : AxS))) () (fun h => by omega) rfl rfl ?_
           intro j _ hj hJ
           have hsj : (repL (j + 1) inner).foldl layQ (⟨ls, t1 :: ts, gl, gt⟩ : AxS) = inner.foldl layQ ((repL j inner).foldl layQ (⟨ls, t1 :: ts, gl, gt⟩ : AxS)) := repL_foldl
           have hbj := hbnd j (by omega)
           have hnej := fun h => hne h j
           have hNj := fun h : j = m => hNx ((repL j inner).foldl layQ (⟨ls, t1 :: ts, gl, gt⟩ : AxS)) (by rw [h])
           have hlj := hlay j _ hbj (by omega)
           have hlm := hlim j
           have htj := htr ((repL j inner).foldl layQ (⟨ls, t1 :: ts, gl, gt⟩ : AxS))
           have htgt : ∀ s', (repL j inner).foldl layQ (⟨ls, t1 :: ts, gl, gt⟩ : AxS) = s' → m = j → (repL m inner).foldl layQ (⟨ls, t1 :: ts, gl, gt⟩ : AxS) = s' := fun s' h1 h2 => by rw [h2]; exact h1
           rcases Nat.lt_or_ge j m with hjm | hjm
           · have wl : ilt (j : Int) n = true := by rw [ilt_t, ← hm]; omega
             have hlm := hlm hjm
             clear hlay hlim hbnd hne htr hNj htgt hNx hN5 hNn hbj
             by_cases hfull : 10000 < (inner.foldl layQ ((repL j inner).foldl layQ (⟨ls, t1 :: ts, gl, gt⟩ : AxS))).ts.length
             · rw [hlm hfull]
               clear hsj hlm
               generalize inner.foldl layQ ((repL j inner).foldl layQ (⟨ls, t1 :: ts, gl, gt⟩ : AxS)) = s2 at *
               generalize (repL j inner).foldl layQ (⟨ls, t1 :: ts, gl, gt⟩ : AxS) = s1 at *
               rcases s2 with ⟨ls2, _ | ⟨t2, ts2⟩, gl2, gt2⟩
               · exact (htj rfl).elim
               have wd : decide (10000 < (t2 :: ts2).length) = true := decide_eq_true hfull
               rcases s1 with ⟨ls1, _ | ⟨t3, ts1⟩, gl1, gt1⟩
               · conv => whnf
                 repeat' ((first | refine bt ?_ | refine bf ?_ | refine vcall_i hlj ?_ | refine vl ?_ | fail) <;> conv => whnf)
                 exact ⟨rfl, rfl⟩
               · conv => whnf
                 repeat' ((first | refine bt ?_ | refine bf ?_ | refine vcall_i hlj ?_ | refine vl ?_ | fail) <;> conv => whnf)
                 exact ⟨rfl, rfl⟩
             · have hJ2 : 0 < j + 1 → ((repL (j + 1) inner).foldl layQ (⟨ls, t1 :: ts, gl, gt⟩ : AxS)).ts.length ≤ 10000 := fun _ => by rw [hsj]; exact Nat.not_lt.1 hfull
               clear hlm hJ
               generalize inner.foldl layQ ((repL j inner).foldl layQ (⟨ls, t1 :: ts, gl, gt⟩ : AxS)) = s2 at *
               generalize (repL j inner).foldl layQ (⟨ls, t1 :: ts, gl, gt⟩ : AxS) = s1 at *
               rcases s2 with ⟨ls2, _ | ⟨t2, ts2⟩, gl2, gt2⟩
               · exact (htj rfl).elim
               have wd : decide (10000 < (t2 :: ts2).length) = false := decide_eq_false hfull
               rcases s1 with ⟨ls1, _ | ⟨t3, ts1⟩, gl1, gt1⟩
               · conv => whnf
                 repeat' ((first | refine bt ?_ | refine bf ?_ | refine vcall_i hlj ?_ | refine vl ?_ | fail) <;> conv => whnf)
                 exact ⟨⟨(j + 1, ()), (by omega), hJ2⟩, (by simp only; omega), (by repeat' (first | exact rfl | exact slot_eq (I_eq (iadd_one (by omega))) | (refine cons_eq ?_ ?_) | assumption)), congrArg (ixH fr to (.mk kd vn names t cn (.sl 11 (inner.map pcRow)) inner)) hsj.symm, rfl, rfl⟩
               · conv => whnf
                 repeat' ((first | refine bt ?_ | refine bf ?_ | refine vcall_i hlj ?_ | refine vl ?_ | fail) <;> conv => whnf)
                 exact ⟨⟨(j + 1, ()), (by omega), hJ2⟩, (by simp only; omega), (by repeat' (first | exact rfl | exact slot_eq (I_eq (iadd_one (by omega))) | (refine cons_eq ?_ ?_) | assumption)), congrArg (ixH fr to (.mk kd vn names t cn (.sl 11 (inner.map pcRow)) inner)) hsj.symm, rfl, rfl⟩
           · obtain rfl : j = m := by omega
             have wl : ilt (j : Int) n = false := by rw [ilt_f, ← hm]; omega
             have hNj := hNj rfl
             clear hlay hlim hbnd hne htr htgt hNx hN5 hNn hsj hlj hlm htj hJ
             generalize (repL j inner).foldl layQ (⟨ls, t1 :: ts, gl, gt⟩ : AxS) = s1 at *
             rcases s1 with ⟨ls1, _ | ⟨t3, ts1⟩, gl1, gt1⟩
             · conv => whnf
               repeat' ((first | refine bt ?_ | refine bf ?_ | refine vl ?_ | fail) <;> conv => whnf)
               exact ⟨⟨(k + 1, (_, fr, to)), (by omega), hNj⟩, (by simp only; omega), (by repeat' (first | exact rfl | exact slot_eq (I_eq (iadd_one (by omega))) | (refine cons_eq ?_ ?_) | assumption)), rfl, rfl, rfl⟩
             · conv => whnf
               repeat' ((first | refine bt ?_ | refine bf ?_ | refine vl ?_ | fail) <;> conv => whnf)
               exact ⟨⟨(k + 1, (_, fr, to)), (by omega), hNj⟩, (by simp only; omega), (by repeat' (first | exact rfl | exact slot_eq (I_eq (iadd_one (by omega))) | (refine cons_eq ?_ ?_) | assumption)), rfl, rfl, rfl⟩
 · obtain rfl : k = l.length := by omega
   have hl := nlt_len (f := pcRow) (Nat.not_lt.2 (Nat.le_refl l.length))
   obtain ⟨hB, hI⟩ := hI
   rw [List.take_length] at hI
   rcases hI with ⟨hX, hle⟩ | ⟨h1, h2⟩
   · rw [← hX]
     unfold axA
     rw [if_pos hle]
     have hbl := hB.1
     have hgl1 : ∀ g : Nat, Nat.beq g g = true := fun g => by simp
     rcases s with ⟨ls, _ | ⟨t1, ts⟩, gl, gt⟩
     · have hg1 := hgl1 gl
       conv => whnf
       repeat' ((first | refine bt ?_ | refine bf ?_ | refine vl ?_ | fail) <;> conv => whnf)
       refine ⟨?_, rfl⟩
       show CR.ret (AV.tup [.agg [.d (.sl 1 (((ls.map lnRow).take ls.length).drop 0)), .d .nilsl, I fr, I to], I 0]) = _
       rw [List.drop_zero, List.take_of_length_le (by simp)]
       rfl
     · have wd : decide (10000 < (t1 :: ts).length) = false := decide_eq_false (Nat.not_lt.2 hle)
       have hg1 := hgl1 gl
       have hg2 := hgl1 gt
       conv => whnf
       repeat' ((first | refine bt ?_ | refine bf ?_ | refine vl ?_ | fail) <;> conv => whnf)
       refine ⟨?_, rfl⟩
       show CR.ret (AV.tup [.agg [.d (.sl 1 (((ls.map lnRow).take ls.length).drop 0)), .d (.sl 7 ((((t1 :: ts).map trkRow).take (t1 :: ts).length).drop 0)), I fr, I to], I 0]) = _
       rw [List.drop_zero, List.take_of_length_le (by simp), List.drop_zero, List.take_of_length_le (by simp)]
       rfl
   · have hA : axA (axF n l) = .tup [.agg [.d .nilsl, .d .nilsl, I 0, I 0], I 52] := by
      unfold axA
      rw [if_neg (Nat.not_le.2 h2)]
     rw [hA]
     rcases s with ⟨ls, _ | ⟨t1, ts⟩, gl, gt⟩
     · simp at h1
     · have wd : decide (10000 < (t1 :: ts).length) = true := decide_eq_true h1
       conv => whnf
       repeat' ((first | refine bt ?_ | refine bf ?_ | refine vl ?_ | fail) <;> conv => whnf)
       exact ⟨rfl, rfl⟩
end Go.Proofs.YtkljckbaenbjeaaGreatDoor.Ab
namespace Go.Proofs.YtkljckbaenbjeaaGreatDoor.Ab
open Go
set_option linter.unusedSimpArgs false
set_option linter.unusedVariables false
end Go.Proofs.YtkljckbaenbjeaaGreatDoor.Ab
namespace Go.Proofs.YtkljckbaenbjeaaGreatDoor.Ab
open Go
set_option maxRecDepth 100000
theorem lives15_ok : Pur F0 5 [] [] .no (.ret (B true)) .no := pur_closed (n := 100) (by kernel_rfl)
end Go.Proofs.YtkljckbaenbjeaaGreatDoor.Ab
