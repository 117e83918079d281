/- Some texts as one, one behind the other; what is not leaned on is left out. -/
import Derived.Test.YtjeblkicgmmhiaaGreatDoorP4
import Derived.Test.YtjeblkicgmmhiaaGreatDoorP6
import Derived.Test.YtjeblkicgmmhiaaGreatDoorP1
namespace Go.Proofs.YtjeblkicgmmhiaaGreatDoor.Ab
open Go
set_option linter.unusedSimpArgs false
set_option linter.unusedVariables false
/-- How often a piece's inner pieces are taken. -/
def tmN (n : Int) (p : Pc) : Nat := (if p.kind = 3 then p.count else n).toNat
def repL (m : Nat) (L : List Pc) : List Pc := match m with
  | 0 => []
  | m + 1 => repL m L ++ L
def itP (n : Int) (p : Pc) : List Pc := if p.kind = 1 ∨ p.kind = 2 then [p] else repL (tmN n p) p.inner
def ax0 : AxS := ⟨[[]], [], 0, 0⟩
/-- A piece of a template behind others: where it fits, its tracks' places too. -/
def axP (n : Int) (x : AxS × Int × Int) (p : Pc) : AxS × Int × Int :=
  ((itP n p).foldl layQ x.1, if p.kind = 5 then ((x.1.ts.length : Int), (((itP n p).foldl layQ x.1).ts.length : Int)) else x.2)
def axF (n : Int) (l : List Pc) : AxS × Int × Int := l.foldl (axP n) (ax0, 0, 0)
theorem repL_foldl {m : Nat} {L : List Pc} {s : AxS} : (repL (m + 1) L).foldl layQ s = L.foldl layQ ((repL m L).foldl layQ s) := by
  show (repL m L ++ L).foldl layQ s = _
  rw [List.foldl_append]
theorem repL_mem {m : Nat} {L : List Pc} {q : Pc} (h : q ∈ repL m L) : q ∈ L := by
  induction m with
  | zero => cases h
  | succ m ih =>
    rcases List.mem_append.1 h with h | h
    · exact ih h
    · exact h
theorem repL_len {m : Nat} {L : List Pc} : (repL m L).length = m * L.length := by
  induction m with
  | zero => simp [repL]
  | succ m ih => show (repL m L ++ L).length = _; rw [List.length_append, ih, Nat.succ_mul]
theorem layQ_mono {s : AxS} {q : Pc} : s.ts.length ≤ (layQ s q).ts.length := by
  unfold layQ
  split
  · exact Nat.le_refl _
  · simp
theorem lay_mono {L : List Pc} : ∀ {s : AxS}, s.ts.length ≤ (L.foldl layQ s).ts.length := by
  induction L with
  | nil => intro s; exact Nat.le_refl _
  | cons q L ih => intro s; exact Nat.le_trans layQ_mono ih
theorem rep_mono {a b : Nat} {L : List Pc} {s : AxS} (h : a ≤ b) : ((repL a L).foldl layQ s).ts.length ≤ ((repL b L).foldl layQ s).ts.length := by
  induction b with
  | zero => obtain rfl : a = 0 := by omega
            exact Nat.le_refl _
  | succ b ih =>
    rcases Nat.lt_or_ge a (b + 1) with h1 | h1
    · rw [repL_foldl]
      exact Nat.le_trans (ih (by omega)) lay_mono
    · obtain rfl : a = b + 1 := by omega
      exact Nat.le_refl _
theorem axP_mono {n : Int} {x : AxS × Int × Int} {p : Pc} : x.1.ts.length ≤ (axP n x p).1.ts.length := lay_mono
theorem axP_monoL {n : Int} : ∀ {l : List Pc} {x : AxS × Int × Int}, x.1.ts.length ≤ (l.foldl (axP n) x).1.ts.length
  | [], x => Nat.le_refl _
  | p :: l, x => Nat.le_trans (axP_mono (n := n) (p := p)) axP_monoL
theorem axF_take {n : Int} {l : List Pc} {k : Nat} : (axF n (l.take k)).1.ts.length ≤ (axF n l).1.ts.length := by
  have h : axF n l = (l.drop k).foldl (axP n) (axF n (l.take k)) := by
    unfold axF
    rw [← List.foldl_append, List.take_append_drop]
  rw [h]
  exact axP_monoL
theorem axF_succ {n : Int} {l : List Pc} {k : Nat} {p : Pc} (h : l[k]? = some p) : axF n (l.take (k + 1)) = axP n (axF n (l.take k)) p := foldl_succ h
/-- Some inner pieces that lay a track. -/
theorem lay_track {L : List Pc} {s : AxS} (h : ∃ q ∈ L, q.kind ≠ 1) : (L.foldl layQ s).ts ≠ [] := by
  induction L generalizing s with
  | nil => obtain ⟨q, hq, _⟩ := h; cases hq
  | cons p L ih =>
    obtain ⟨q, hq, hk⟩ := h
    rcases List.mem_cons.1 hq with rfl | hq
    · intro he
      have h1 : (layQ s q).ts.length ≤ (L.foldl layQ (layQ s q)).ts.length := lay_mono
      rw [List.foldl_cons] at he
      rw [he] at h1
      unfold layQ at h1
      rw [if_neg hk] at h1
      simp at h1
    · exact ih ⟨q, hq, hk⟩
theorem lay_ne {L : List Pc} {s : AxS} (h : s.ts ≠ []) : (L.foldl layQ s).ts ≠ [] := fun he => by
  have h1 := lay_mono (L := L) (s := s)
  rw [he] at h1
  exact h (List.length_eq_zero_iff.1 (Nat.le_zero.1 h1))
/-- What holds of a template's pieces: each may be laid. -/
theorem good_lay {l : List Pc} (hG : GoodP l) (hall : ∀ p ∈ l, PcOk p) : ∀ p ∈ l, LayP p ∧ (∀ q ∈ p.inner, LayP q) ∧ p.inner.length ≤ 256 ∧ (¬ (p.kind = 1 ∨ p.kind = 2) → RepK p.kind ∧ ∃ q ∈ p.inner, q.kind ≠ 1) := by
  intro p hp
  have hpo := hall p hp
  rcases hG with rfl | ⟨h1, h2, h3, _⟩
  · cases hp
  have hal : ∀ q, AloneP q → PcOk q → LayP q := fun q ha ho => ⟨ho, fun hk => by
    rcases ha with ⟨_, hn, _⟩ | ⟨h, _⟩ | ⟨h, _⟩ | ⟨h, _⟩
    · exact ⟨fun e => by have := hn.1; rw [e] at this; simp at this, hn.2.1⟩
    · omega
    · omega
    · unfold AutoK at h; omega⟩
  obtain ⟨i, hi⟩ := List.getElem?_of_mem hp
  have ha := (h1.1 i p hi).1
  have hr : ¬ (p.kind = 1 ∨ p.kind = 2) → RepK p.kind := fun hk => by
    rcases ha with ⟨h, _⟩ | ⟨h, _⟩ | ⟨h, _⟩ | ⟨h, _⟩
    · exact (hk (.inl h)).elim
    · exact (hk (.inr h)).elim
    · exact .inl h
    · exact .inr h
  have hin : ∀ q ∈ p.inner, PcOk q := by cases hpo with | mk hn hi h => exact h
  refine ⟨hal p ha hpo, fun q hq => ?_, ?_, fun hk => ⟨hr hk, ?_⟩⟩
  · by_cases hk : RepK p.kind
    · obtain ⟨j, hj⟩ := List.getElem?_of_mem hq
      exact hal q ((h2 p hp hk).1 j q hj).1 (hin q hq)
    · rw [alone_inner ha hk] at hq; cases hq
  · by_cases hk : RepK p.kind
    · exact (h2 p hp hk).2.2
    · rw [alone_inner ha hk]; simp
  · obtain ⟨j, q, hj, hk1⟩ := (h2 p hp (hr hk)).2.1
    exact ⟨q, List.mem_of_getElem? hj, hk1⟩
theorem count0 {p : Pc} (ha : AloneP p) (hk : p.kind = 1 ∨ p.kind = 2) : p.count = 0 := by
  rcases ha with ⟨_, _, _, _, h⟩ | ⟨_, _, _, _, h⟩ | ⟨h, _⟩ | ⟨h, _⟩
  · exact h
  · exact h
  · omega
  · unfold AutoK at h; omega
theorem tmN_le {n : Int} {p : Pc} (ha : AloneP p) (hn : n ≤ 10000) : tmN n p ≤ 10000 := by
  unfold tmN
  split
  · rename_i h3
    rcases ha with ⟨h, _⟩ | ⟨h, _⟩ | ⟨_, _, h, _⟩ | ⟨h, _⟩
    · omega
    · omega
    · omega
    · unfold AutoK at h; omega
  · omega
def axA (x : AxS × Int × Int) : AV := if x.1.ts.length ≤ 10000 then .tup [.agg [.d (.sl 1 (x.1.ls.map lnRow)), .d (tsW x.1.ts), I x.2.1, I x.2.2], I 0] else .tup [.agg [.d .nilsl, .d .nilsl, I 0, I 0], I 52]
end Go.Proofs.YtjeblkicgmmhiaaGreatDoor.Ab
namespace Go.Proofs.YtjeblkicgmmhiaaGreatDoor.Ab
open Go
set_option linter.unusedSimpArgs false
set_option maxRecDepth 100000
set_option linter.unusedVariables false
set_option maxHeartbeats 8000000
def rsO : Obj := axO (.d .nilsl) (.d .nilsl) 0 0
def pcO (p : Pc) : Obj := ⟨.mine, 69, .fix ((pcRow p).map .d)⟩
def oxH (fr to : Int) (s : AxS) : Heap := match s.ts with
  | [] => [rsO, axO (.osl 3 s.gl 0 s.ls.length) (.d .nilsl) fr to, flO false, lnO s.gl s.ls]
  | t :: r => [rsO, axO (.osl 3 s.gl 0 s.ls.length) (.osl 4 s.gt 0 (t :: r).length) fr to, flO (decide (10000 < (t :: r).length)), lnO s.gl s.ls, trO s.gt (t :: r)]
def ixH (fr to : Int) (p : Pc) (s : AxS) : Heap := match s.ts with
  | [] => [rsO, axO (.osl 4 s.gl 0 s.ls.length) (.d .nilsl) fr to, flO false, pcO p, lnO s.gl s.ls]
  | t :: r => [rsO, axO (.osl 4 s.gl 0 s.ls.length) (.osl 5 s.gt 0 (t :: r).length) fr to, flO (decide (10000 < (t :: r).length)), pcO p, lnO s.gl s.ls, trO s.gt (t :: r)]
/-- How an axis stands ahead of a piece: as all ahead of it say; or there are too many tracks. -/
def AxI (n : Int) (l : List Pc) (k : Nat) (x : AxS × Int × Int) : Prop :=
  AxB (2560000 * k) x.1 ∧ ((x = axF n (l.take k) ∧ x.1.ts.length ≤ 10000) ∨ (10000 < x.1.ts.length ∧ 10000 < (axF n (l.take k)).1.ts.length))
theorem axB_mono {c c' : Nat} {s : AxS} (h : c ≤ c') (hB : AxB c s) : AxB c' s := ⟨hB.1, by have := hB.2.1; omega, fun x hx => by have := hB.2.2 x hx; omega⟩
theorem axI_next {n : Int} {l : List Pc} {k : Nat} {p : Pc} {x x' : AxS × Int × Int} (hp : l[k]? = some p) (hI : AxI n l k x) (hB : AxB (2560000 * (k + 1)) x'.1) (hx : x' = axP n x p) : AxI n l (k + 1) x' := by
  refine ⟨hB, ?_⟩
  have hS := axF_succ (n := n) hp
  rcases hI.2 with ⟨h1, h2⟩ | ⟨h1, h2⟩
  · rw [hS, ← h1, ← hx]
    rcases Nat.lt_or_ge 10000 x'.1.ts.length with h | h
    · exact .inr ⟨h, h⟩
    · exact .inl ⟨rfl, h⟩
  · refine .inr ⟨?_, ?_⟩
    · rw [hx]; exact Nat.lt_of_lt_of_le h1 axP_mono
    · rw [hS]; exact Nat.lt_of_lt_of_le h2 axP_mono
theorem axis_ok (l : List Pc) (size gap : Int) (b : Bool) (n : Int) (hC : Pur F0 22 [.d (.sl 11 (l.map pcRow)), I size, B b, I gap] [] .no (.ret (.tup [I n, I 0])) .no)
    (hG : GoodP l) (hall : ∀ p ∈ l, PcOk p) (hn0 : 0 ≤ n) (hn1 : n ≤ 10000) :
    Pur F0 24 [.d (.sl 11 (l.map pcRow)), I size, B b, I gap] [] .no (.ret (axA (axF n l))) .no := by
  obtain ⟨hal, hlen⟩ := good_alone hG
  have hgl := good_lay hG hall
  have z : (!ieq (0 : Int) (Int.ofNat 0)) = false := by rw [Bool.not_eq_false', ieq_t]; rfl
  refine pur_code code24_ok ?_
  conv => whnf
  repeat' ((first | refine vb_t rfl ?_ | refine vb_f rfl ?_ | refine vb_t ‹_› ?_ | refine vb_f ‹_› ?_ | refine vpur_i hC ?_ | refine vor_l ?_ | fail) <;> conv => whnf)
  refine vloop_cnh (α := AxS × Int × Int) l.length (AxI n l) (fun k _ => [(36, I (k : Int))]) (fun _ x => oxH x.2.1 x.2.2 x.1) (ax0, 0, 0) ⟨⟨rfl, Nat.zero_le _, fun x hx => by rw [List.mem_singleton.1 hx]; simp⟩, .inl ⟨rfl, Nat.zero_le _⟩⟩ rfl rfl ?_
  rintro k ⟨s, fr, to⟩ hk hI
  rcases Nat.lt_or_ge k l.length with hlt | hge
  · obtain ⟨p, hp⟩ := get_in hlt
    have hg := iget_map (f := pcRow) hp
    have hl := lt_len (f := pcRow) hlt
    have hm := List.mem_of_getElem? hp
    obtain ⟨hLp, hLi, hil, hRk⟩ := hgl p hm
    have hap := hal p hm
    have hS := axF_succ (n := n) hp
    obtain ⟨hB, hI⟩ := hI
    simp only at hB hI
    have hPo := hLp.1
    have hcut : icut (l.map pcRow) (k : Int) (iadd .i64 (k : Int) (Int.ofNat 1)) = some [pcRow p] := by
      have e1 : iadd .i64 (k : Int) (Int.ofNat 1) = ((k + 1 : Nat) : Int) := by rw [iadd64 (by rw [o1']; omega) (by rw [o1']; omega), o1']; omega
      rw [e1, icut_t (by omega) (by omega) (by rw [List.length_map]; omega)]
      congr 1
      rw [Int.toNat_natCast, Int.toNat_natCast, List.take_add_one, List.getElem?_map, hp]
      rw [List.drop_append_of_le_length (by rw [List.length_take, List.length_map]; omega), List.drop_of_length_le (by rw [List.length_take]; omega)]
      rfl
    by_cases hk12 : p.kind = 1 ∨ p.kind = 2
    · have hlay := lay_ok [p] (fun q hq => by rw [List.mem_singleton.1 hq]; exact hLp) s (2560000 * k) hB (by simp only [List.length_cons, List.length_nil]; omega) fr to
      have hc0 := count0 hap hk12
      have hit : itP n p = [p] := if_pos hk12
      have hx : axP n (s, fr, to) p = ([p].foldl layQ s, fr, to) := by
        unfold axP
        rw [hit, if_neg (by omega)]
      have hB' := axB_fold (L := [p]) (fun q hq => by rw [List.mem_singleton.1 hq]; exact hLp) hB
      have hN := axI_next (x' := ([p].foldl layQ s, fr, to)) hp ⟨hB, hI⟩ (axB_mono (by simp only [List.length_cons, List.length_nil]; omega) hB') hx.symm
      have hne : s.ts ≠ [] → ([p].foldl layQ s).ts ≠ [] := lay_ne
      generalize [p].foldl layQ s = s' at *
      cases hPo with
      | @mk kd vn names t cn vi inner hvn hvi hin =>
      simp only [Pc.kind, Pc.count] at hk12 hc0
      subst hc0
      have q5 : ieq kd (Int.ofNat 5) = false := by
        rw [ieq_f]
        clear hRk hgl hLp hLi
        rcases hk12 with h | h <;> rw [h] <;> decide
      have h00 : ilt (Int.ofNat 0) (0 : Int) = false := by rw [ilt_f]; decide
      by_cases hk1 : kd = 1
      · have q1 : ieq kd (Int.ofNat 1) = true := by rw [ieq_t]; exact hk1
        rcases s with ⟨ls, _ | ⟨t1, ts⟩, gl, gt⟩
        · rcases s' with ⟨ls', _ | ⟨t1', ts'⟩, gl', gt'⟩
          · conv => whnf
            repeat' ((first | refine vb_t rfl ?_ | refine vb_f rfl ?_ | refine vb_t ‹_› ?_ | refine vb_f ‹_› ?_ | refine vo_i hg ?_ | refine vo_i hcut ?_ | refine vcall_i hlay ?_ | refine vor_l ?_ | fail) <;> conv => whnf)
            refine vloop_once ?_
            conv => whnf
            repeat' ((first | refine vb_t rfl ?_ | refine vb_f rfl ?_ | refine vb_t ‹_› ?_ | refine vb_f ‹_› ?_ | refine vor_l ?_ | fail) <;> conv => whnf)
            exact ⟨⟨(k + 1, (_, fr, to)), (by omega), hN⟩, (by simp only; omega), (by repeat' (first | exact rfl | exact slot_eq (I_eq (iadd_one (by omega))) | (refine cons_eq ?_ ?_) | assumption)), rfl, rfl, rfl⟩
          · conv => whnf
            repeat' ((first | refine vb_t rfl ?_ | refine vb_f rfl ?_ | refine vb_t ‹_› ?_ | refine vb_f ‹_› ?_ | refine vo_i hg ?_ | refine vo_i hcut ?_ | refine vcall_i hlay ?_ | refine vor_l ?_ | fail) <;> conv => whnf)
            refine vloop_once ?_
            conv => whnf
            repeat' ((first | refine vb_t rfl ?_ | refine vb_f rfl ?_ | refine vb_t ‹_› ?_ | refine vb_f ‹_› ?_ | refine vor_l ?_ | fail) <;> conv => whnf)
            exact ⟨⟨(k + 1, (_, fr, to)), (by omega), hN⟩, (by simp only; omega), (by repeat' (first | exact rfl | exact slot_eq (I_eq (iadd_one (by omega))) | (refine cons_eq ?_ ?_) | assumption)), rfl, rfl, rfl⟩
        · rcases s' with ⟨ls', _ | ⟨t1', ts'⟩, gl', gt'⟩
          · exact (hne (by simp) rfl).elim
          · conv => whnf
            repeat' ((first | refine vb_t rfl ?_ | refine vb_f rfl ?_ | refine vb_t ‹_› ?_ | refine vb_f ‹_› ?_ | refine vo_i hg ?_ | refine vo_i hcut ?_ | refine vcall_i hlay ?_ | refine vor_l ?_ | fail) <;> conv => whnf)
            refine vloop_once ?_
            conv => whnf
            repeat' ((first | refine vb_t rfl ?_ | refine vb_f rfl ?_ | refine vb_t ‹_› ?_ | refine vb_f ‹_› ?_ | refine vor_l ?_ | fail) <;> conv => whnf)
            exact ⟨⟨(k + 1, (_, fr, to)), (by omega), hN⟩, (by simp only; omega), (by repeat' (first | exact rfl | exact slot_eq (I_eq (iadd_one (by omega))) | (refine cons_eq ?_ ?_) | assumption)), rfl, rfl, rfl⟩
      · have q1 : ieq kd (Int.ofNat 1) = false := by rw [ieq_f]; exact hk1
        have q2 : ieq kd (Int.ofNat 2) = true := by rw [ieq_t]; exact hk12.resolve_left hk1
        rcases s with ⟨ls, _ | ⟨t1, ts⟩, gl, gt⟩
        · rcases s' with ⟨ls', _ | ⟨t1', ts'⟩, gl', gt'⟩
          · conv => whnf
            repeat' ((first | refine vb_t rfl ?_ | refine vb_f rfl ?_ | refine vb_t ‹_› ?_ | refine vb_f ‹_› ?_ | refine vo_i hg ?_ | refine vo_i hcut ?_ | refine vcall_i hlay ?_ | refine vor_l ?_ | fail) <;> conv => whnf)
            refine vloop_once ?_
            conv => whnf
            repeat' ((first | refine vb_t rfl ?_ | refine vb_f rfl ?_ | refine vb_t ‹_› ?_ | refine vb_f ‹_› ?_ | refine vor_l ?_ | fail) <;> conv => whnf)
            exact ⟨⟨(k + 1, (_, fr, to)), (by omega), hN⟩, (by simp only; omega), (by repeat' (first | exact rfl | exact slot_eq (I_eq (iadd_one (by omega))) | (refine cons_eq ?_ ?_) | assumption)), rfl, rfl, rfl⟩
          · conv => whnf
            repeat' ((first | refine vb_t rfl ?_ | refine vb_f rfl ?_ | refine vb_t ‹_› ?_ | refine vb_f ‹_› ?_ | refine vo_i hg ?_ | refine vo_i hcut ?_ | refine vcall_i hlay ?_ | refine vor_l ?_ | fail) <;> conv => whnf)
            refine vloop_once ?_
            conv => whnf
            repeat' ((first | refine vb_t rfl ?_ | refine vb_f rfl ?_ | refine vb_t ‹_› ?_ | refine vb_f ‹_› ?_ | refine vor_l ?_ | fail) <;> conv => whnf)
            exact ⟨⟨(k + 1, (_, fr, to)), (by omega), hN⟩, (by simp only; omega), (by repeat' (first | exact rfl | exact slot_eq (I_eq (iadd_one (by omega))) | (refine cons_eq ?_ ?_) | assumption)), rfl, rfl, rfl⟩
        · rcases s' with ⟨ls', _ | ⟨t1', ts'⟩, gl', gt'⟩
          · exact (hne (by simp) rfl).elim
          · conv => whnf
            repeat' ((first | refine vb_t rfl ?_ | refine vb_f rfl ?_ | refine vb_t ‹_› ?_ | refine vb_f ‹_› ?_ | refine vo_i hg ?_ | refine vo_i hcut ?_ | refine vcall_i hlay ?_ | refine vor_l ?_ | fail) <;> conv => whnf)
            refine vloop_once ?_
            conv => whnf
            repeat' ((first | refine vb_t rfl ?_ | refine vb_f rfl ?_ | refine vb_t ‹_› ?_ | refine vb_f ‹_› ?_ | refine vor_l ?_ | fail) <;> conv => whnf)
            exact ⟨⟨(k + 1, (_, fr, to)), (by omega), hN⟩, (by simp only; omega), (by repeat' (first | exact rfl | exact slot_eq (I_eq (iadd_one (by omega))) | (refine cons_eq ?_ ?_) | assumption)), rfl, rfl, rfl⟩
    · obtain ⟨hRep, hTr⟩ := hRk hk12
      have hit : itP n p = repL (tmN n p) p.inner := if_neg hk12
      have hx : axP n (s, fr, to) p = ((repL (tmN n p) p.inner).foldl layQ s, if p.kind = 5 then ((s.ts.length : Int), (((repL (tmN n p) p.inner).foldl layQ s).ts.length : Int)) else (fr, to)) := by
        unfold axP
        rw [hit]
      have htm := tmN_le hap hn1
      have hfl := efills_ok p.kind
      have hlim : ∀ j : Nat, j < tmN n p → 10000 < (p.inner.foldl layQ ((repL j p.inner).foldl layQ s)).ts.length → axA (axF n l) = .tup [.agg [.d .nilsl, .d .nilsl, I 0, I 0], I 52] := fun j hj h => by
        unfold axA
        rw [if_neg]
        refine Nat.not_le.2 ?_
        rcases hI with ⟨h1, _⟩ | ⟨_, h2⟩
        · refine Nat.lt_of_lt_of_le ?_ (axF_take (n := n) (l := l) (k := k + 1))
          rw [hS, ← h1, hx]
          rw [← repL_foldl] at h
          exact Nat.lt_of_lt_of_le h (rep_mono hj)
        · exact Nat.lt_of_lt_of_le h2 axF_take
      have hlay := fun (j : Nat) (s' : AxS) (hb : AxB (2560000 * k + j * 256) s') (hj : j ≤ 10000) => lay_ok p.inner hLi s' (2560000 * k + j * 256) hb (by omega) fr to
      have hbnd := fun (j : Nat) (hj : j ≤ 10000) => axB_mono (c' := 2560000 * k + j * 256) (by rw [repL_len]; have := Nat.mul_le_mul_left j hil; omega) (axB_fold (L := repL j p.inner) (fun q hq => hLi q (repL_mem hq)) hB)
      have hN0 : ∀ x' : AxS × Int × Int, x' = axP n (s, fr, to) p → AxB (2560000 * (k + 1)) x'.1 → AxI n l (k + 1) x' := fun x' h1 h2 => axI_next hp ⟨hB, hI⟩ h2 h1
      have hN5 : p.kind = 5 → ∀ s' : AxS, s' = (repL (tmN n p) p.inner).foldl layQ s → AxI n l (k + 1) (s', (s.ts.length : Int), (s'.ts.length : Int)) := fun h5 s' h => hN0 _ (by rw [hx, if_pos h5, h]) (by rw [h]; exact axB_mono (by omega) (hbnd (tmN n p) htm))
      have hNn : p.kind ≠ 5 → ∀ s' : AxS, s' = (repL (tmN n p) p.inner).foldl layQ s → AxI n l (k + 1) (s', fr, to) := fun h5 s' h => hN0 _ (by rw [hx, if_neg h5, h]) (by rw [h]; exact axB_mono (by omega) (hbnd (tmN n p) htm))
      have hne : s.ts ≠ [] → ∀ j, ((repL j p.inner).foldl layQ s).ts ≠ [] := fun h j => lay_ne h
      have htr : ∀ s' : AxS, (p.inner.foldl layQ s').ts ≠ [] := fun s' => lay_track hTr
      have hnin : p.inner ≠ [] := fun h => by obtain ⟨q, hq, _⟩ := hTr; rw [h] at hq; cases hq
      have ht3 : p.kind = 3 → (tmN n p : Int) = p.count := fun h => by
        unfold tmN
        rw [if_pos h]
        rcases hap with ⟨h1, _⟩ | ⟨h1, _⟩ | ⟨_, h1, _⟩ | ⟨h1, _⟩
        · omega
        · omega
        · omega
        · unfold AutoK at h1; omega
      have htn : p.kind ≠ 3 → (tmN n p : Int) = n := fun h => by unfold tmN; rw [if_neg h]; omega
      clear hN0 hRk hgl hLp hx hit hcut hTr hLi hS hap
      generalize tmN n p = m at *
      cases hPo with
      | @mk kd vn names t cn vi inner hvn hvi hin =>
      generalize hKD : (Pc.mk kd vn names t cn vi inner).kind = KD at *
      generalize hIN : (Pc.mk kd vn names t cn vi inner).inner = IN at *
      generalize hCN : (Pc.mk kd vn names t cn vi inner).count = CN at *
      obtain rfl : kd = KD := hKD
      obtain rfl : inner = IN := hIN
      obtain rfl : cn = CN := hCN
      rcases hvi with ⟨rfl, hvi⟩ | rfl
      · exact (hnin (List.map_eq_nil_iff.1 hvi)).elim
      have q1 : ieq kd (Int.ofNat 1) = false := by rw [ieq_f]; exact fun e => hk12 (.inl e)
      have q2 : ieq kd (Int.ofNat 2) = false := by rw [ieq_f]; exact fun e => hk12 (.inr e)
      by_cases h3 : kd = 3
      · rw [pb_f (p := AutoK kd) (by rw [h3]; decide)] at hfl
        have q5 : ieq kd (Int.ofNat 5) = false := by rw [ieq_f, h3]; decide
        have hm := ht3 h3
        have hNx := hNn (by rw [h3]; decide)
        rcases s with ⟨ls, _ | ⟨t1, ts⟩, gl, gt⟩
        · conv => whnf
          repeat' ((first | refine vb_t rfl ?_ | refine vb_f rfl ?_ | refine vb_t ‹_› ?_ | refine vb_f ‹_› ?_ | refine vo_i hg ?_ | refine vpur_i hfl ?_ | refine vor_l ?_ | fail) <;> conv => whnf)
          refine vloop_cnh (α := Unit) m (fun j _ => 0 < j → ((repL j inner).foldl layQ (⟨ls, [], gl, gt⟩ : AxS)).ts.length ≤ 10000) (fun j _ => [(68, I (j : Int))]) (fun j _ => ixH fr to (.mk kd vn names t cn (.sl 11 (inner.map pcRow)) inner) ((repL j inner).foldl layQ (⟨ls, [], gl, gt⟩ : AxS))) () (fun h => by omega) rfl rfl ?_
          intro j _ hj hJ
          have hsj : (repL (j + 1) inner).foldl layQ (⟨ls, [], gl, gt⟩ : AxS) = inner.foldl layQ ((repL j inner).foldl layQ (⟨ls, [], gl, gt⟩ : AxS)) := repL_foldl
          have hbj := hbnd j (by omega)
          have hnej := fun h => hne h j
          have hNj := fun h : j = m => hNx ((repL j inner).foldl layQ (⟨ls, [], gl, gt⟩ : AxS)) (by rw [h])
          have hlj := hlay j _ hbj (by omega)
          have hlm := hlim j
          have htj := htr ((repL j inner).foldl layQ (⟨ls, [], gl, gt⟩ : AxS))
          have htgt : ∀ s', (repL j inner).foldl layQ (⟨ls, [], gl, gt⟩ : AxS) = s' → m = j → (repL m inner).foldl layQ (⟨ls, [], gl, gt⟩ : AxS) = s' := fun s' h1 h2 => by rw [h2]; exact h1
          rcases Nat.lt_or_ge j m with hjm | hjm
          · have wl : ilt (j : Int) cn = true := by rw [ilt_t, ← hm]; omega
            have hlm := hlm hjm
            clear hlay hlim hbnd hne htr hNj htgt hNx hN5 hNn hbj
            by_cases hfull : 10000 < (inner.foldl layQ ((repL j inner).foldl layQ (⟨ls, [], gl, gt⟩ : AxS))).ts.length
            · rw [hlm hfull]
              clear hsj hlm
              generalize inner.foldl layQ ((repL j inner).foldl layQ (⟨ls, [], gl, gt⟩ : AxS)) = s2 at *
              generalize (repL j inner).foldl layQ (⟨ls, [], gl, gt⟩ : AxS) = s1 at *
              rcases s2 with ⟨ls2, _ | ⟨t2, ts2⟩, gl2, gt2⟩
              · exact (htj rfl).elim
              have wd : decide (10000 < (t2 :: ts2).length) = true := decide_eq_true hfull
              rcases s1 with ⟨ls1, _ | ⟨t3, ts1⟩, gl1, gt1⟩
              · conv => whnf
                repeat' ((first | refine vb_t rfl ?_ | refine vb_f rfl ?_ | refine vb_t ‹_› ?_ | refine vb_f ‹_› ?_ | refine vcall_i hlj ?_ | refine vor_l ?_ | fail) <;> conv => whnf)
                exact ⟨rfl, rfl⟩
              · conv => whnf
                repeat' ((first | refine vb_t rfl ?_ | refine vb_f rfl ?_ | refine vb_t ‹_› ?_ | refine vb_f ‹_› ?_ | refine vcall_i hlj ?_ | refine vor_l ?_ | fail) <;> conv => whnf)
                exact ⟨rfl, rfl⟩
            · have hJ2 : 0 < j + 1 → ((repL (j + 1) inner).foldl layQ (⟨ls, [], gl, gt⟩ : AxS)).ts.length ≤ 10000 := fun _ => by rw [hsj]; exact Nat.not_lt.1 hfull
              clear hlm hJ
              generalize inner.foldl layQ ((repL j inner).foldl layQ (⟨ls, [], gl, gt⟩ : AxS)) = s2 at *
              generalize (repL j inner).foldl layQ (⟨ls, [], gl, gt⟩ : AxS) = s1 at *
              rcases s2 with ⟨ls2, _ | ⟨t2, ts2⟩, gl2, gt2⟩
              · exact (htj rfl).elim
              have wd : decide (10000 < (t2 :: ts2).length) = false := decide_eq_false hfull
              rcases s1 with ⟨ls1, _ | ⟨t3, ts1⟩, gl1, gt1⟩
              · conv => whnf
                repeat' ((first | refine vb_t rfl ?_ | refine vb_f rfl ?_ | refine vb_t ‹_› ?_ | refine vb_f ‹_› ?_ | refine vcall_i hlj ?_ | refine vor_l ?_ | fail) <;> conv => whnf)
                exact ⟨⟨(j + 1, ()), (by omega), hJ2⟩, (by simp only; omega), (by repeat' (first | exact rfl | exact slot_eq (I_eq (iadd_one (by omega))) | (refine cons_eq ?_ ?_) | assumption)), congrArg (ixH fr to (.mk kd vn names t cn (.sl 11 (inner.map pcRow)) inner)) hsj.symm, rfl, rfl⟩
              · conv => whnf
                repeat' ((first | refine vb_t rfl ?_ | refine vb_f rfl ?_ | refine vb_t ‹_› ?_ | refine vb_f ‹_› ?_ | refine vcall_i hlj ?_ | refine vor_l ?_ | fail) <;> conv => whnf)
                exact ⟨⟨(j + 1, ()), (by omega), hJ2⟩, (by simp only; omega), (by repeat' (first | exact rfl | exact slot_eq (I_eq (iadd_one (by omega))) | (refine cons_eq ?_ ?_) | assumption)), congrArg (ixH fr to (.mk kd vn names t cn (.sl 11 (inner.map pcRow)) inner)) hsj.symm, rfl, rfl⟩
          · obtain rfl : j = m := by omega
            have wl : ilt (j : Int) cn = false := by rw [ilt_f, ← hm]; omega
            have hNj := hNj rfl
            clear hlay hlim hbnd hne htr htgt hNx hN5 hNn hsj hlj hlm htj hJ
            generalize (repL j inner).foldl layQ (⟨ls, [], gl, gt⟩ : AxS) = s1 at *
            rcases s1 with ⟨ls1, _ | ⟨t3, ts1⟩, gl1, gt1⟩
            · conv => whnf
              repeat' ((first | refine vb_t rfl ?_ | refine vb_f rfl ?_ | refine vb_t ‹_› ?_ | refine vb_f ‹_› ?_ | refine vor_l ?_ | fail) <;> conv => whnf)
              exact ⟨⟨(k + 1, (_, fr, to)), (by omega), hNj⟩, (by simp only; omega), (by repeat' (first | exact rfl | exact slot_eq (I_eq (iadd_one (by omega))) | (refine cons_eq ?_ ?_) | assumption)), rfl, rfl, rfl⟩
            · conv => whnf
              repeat' ((first | refine vb_t rfl ?_ | refine vb_f rfl ?_ | refine vb_t ‹_› ?_ | refine vb_f ‹_› ?_ | refine vor_l ?_ | fail) <;> conv => whnf)
              exact ⟨⟨(k + 1, (_, fr, to)), (by omega), hNj⟩, (by simp only; omega), (by repeat' (first | exact rfl | exact slot_eq (I_eq (iadd_one (by omega))) | (refine cons_eq ?_ ?_) | assumption)), rfl, rfl, rfl⟩
        · conv => whnf
          repeat' ((first | refine vb_t rfl ?_ | refine vb_f rfl ?_ | refine vb_t ‹_› ?_ | refine vb_f ‹_› ?_ | refine vo_i hg ?_ | refine vpur_i hfl ?_ | refine vor_l ?_ | fail) <;> conv => whnf)
          refine vloop_cnh (α := Unit) m (fun j _ => 0 < j → ((repL j inner).foldl layQ (⟨ls, t1 :: ts, gl, gt⟩ : AxS)).ts.length ≤ 10000) (fun j _ => [(68, I (j : Int))]) (fun j _ => ixH fr to (.mk kd vn names t cn (.sl 11 (inner.map pcRow)) inner) ((repL j inner).foldl layQ (⟨ls, t1 :: ts, gl, gt⟩ : AxS))) () (fun h => by omega) rfl rfl ?_
          intro j _ hj hJ
          have hsj : (repL (j + 1) inner).foldl layQ (⟨ls, t1 :: ts, gl, gt⟩ : AxS) = inner.foldl layQ ((repL j inner).foldl layQ (⟨ls, t1 :: ts, gl, gt⟩ : AxS)) := repL_foldl
          have hbj := hbnd j (by omega)
          have hnej := fun h => hne h j
          have hNj := fun h : j = m => hNx ((repL j inner).foldl layQ (⟨ls, t1 :: ts, gl, gt⟩ : AxS)) (by rw [h])
          have hlj := hlay j _ hbj (by omega)
          have hlm := hlim j
          have htj := htr ((repL j inner).foldl layQ (⟨ls, t1 :: ts, gl, gt⟩ : AxS))
          have htgt : ∀ s', (repL j inner).foldl layQ (⟨ls, t1 :: ts, gl, gt⟩ : AxS) = s' → m = j → (repL m inner).foldl layQ (⟨ls, t1 :: ts, gl, gt⟩ : AxS) = s' := fun s' h1 h2 => by rw [h2]; exact h1
          rcases Nat.lt_or_ge j m with hjm | hjm
          · have wl : ilt (j : Int) cn = true := by rw [ilt_t, ← hm]; omega
            have hlm := hlm hjm
            clear hlay hlim hbnd hne htr hNj htgt hNx hN5 hNn hbj
            by_cases hfull : 10000 < (inner.foldl layQ ((repL j inner).foldl layQ (⟨ls, t1 :: ts, gl, gt⟩ : AxS))).ts.length
            · rw [hlm hfull]
              clear hsj hlm
              generalize inner.foldl layQ ((repL j inner).foldl layQ (⟨ls, t1 :: ts, gl, gt⟩ : AxS)) = s2 at *
              generalize (repL j inner).foldl layQ (⟨ls, t1 :: ts, gl, gt⟩ : AxS) = s1 at *
              rcases s2 with ⟨ls2, _ | ⟨t2, ts2⟩, gl2, gt2⟩
              · exact (htj rfl).elim
              have wd : decide (10000 < (t2 :: ts2).length) = true := decide_eq_true hfull
              rcases s1 with ⟨ls1, _ | ⟨t3, ts1⟩, gl1, gt1⟩
              · conv => whnf
                repeat' ((first | refine vb_t rfl ?_ | refine vb_f rfl ?_ | refine vb_t ‹_› ?_ | refine vb_f ‹_› ?_ | refine vcall_i hlj ?_ | refine vor_l ?_ | fail) <;> conv => whnf)
                exact ⟨rfl, rfl⟩
              · conv => whnf
                repeat' ((first | refine vb_t rfl ?_ | refine vb_f rfl ?_ | refine vb_t ‹_› ?_ | refine vb_f ‹_› ?_ | refine vcall_i hlj ?_ | refine vor_l ?_ | fail) <;> conv => whnf)
                exact ⟨rfl, rfl⟩
            · have hJ2 : 0 < j + 1 → ((repL (j + 1) inner).foldl layQ (⟨ls, t1 :: ts, gl, gt⟩ : AxS)).ts.length ≤ 10000 := fun _ => by rw [hsj]; exact Nat.not_lt.1 hfull
              clear hlm hJ
              generalize inner.foldl layQ ((repL j inner).foldl layQ (⟨ls, t1 :: ts, gl, gt⟩ : AxS)) = s2 at *
              generalize (repL j inner).foldl layQ (⟨ls, t1 :: ts, gl, gt⟩ : AxS) = s1 at *
              rcases s2 with ⟨ls2, _ | ⟨t2, ts2⟩, gl2, gt2⟩
              · exact (htj rfl).elim
              have wd : decide (10000 < (t2 :: ts2).length) = false := decide_eq_false hfull
              rcases s1 with ⟨ls1, _ | ⟨t3, ts1⟩, gl1, gt1⟩
              · conv => whnf
                repeat' ((first | refine vb_t rfl ?_ | refine vb_f rfl ?_ | refine vb_t ‹_› ?_ | refine vb_f ‹_› ?_ | refine vcall_i hlj ?_ | refine vor_l ?_ | fail) <;> conv => whnf)
                exact ⟨⟨(j + 1, ()), (by omega), hJ2⟩, (by simp only; omega), (by repeat' (first | exact rfl | exact slot_eq (I_eq (iadd_one (by omega))) | (refine cons_eq ?_ ?_) | assumption)), congrArg (ixH fr to (.mk kd vn names t cn (.sl 11 (inner.map pcRow)) inner)) hsj.symm, rfl, rfl⟩
              · conv => whnf
                repeat' ((first | refine vb_t rfl ?_ | refine vb_f rfl ?_ | refine vb_t ‹_› ?_ | refine vb_f ‹_› ?_ | refine vcall_i hlj ?_ | refine vor_l ?_ | fail) <;> conv => whnf)
                exact ⟨⟨(j + 1, ()), (by omega), hJ2⟩, (by simp only; omega), (by repeat' (first | exact rfl | exact slot_eq (I_eq (iadd_one (by omega))) | (refine cons_eq ?_ ?_) | assumption)), congrArg (ixH fr to (.mk kd vn names t cn (.sl 11 (inner.map pcRow)) inner)) hsj.symm, rfl, rfl⟩
          · obtain rfl : j = m := by omega
            have wl : ilt (j : Int) cn = false := by rw [ilt_f, ← hm]; omega
            have hNj := hNj rfl
            clear hlay hlim hbnd hne htr htgt hNx hN5 hNn hsj hlj hlm htj hJ
            generalize (repL j inner).foldl layQ (⟨ls, t1 :: ts, gl, gt⟩ : AxS) = s1 at *
            rcases s1 with ⟨ls1, _ | ⟨t3, ts1⟩, gl1, gt1⟩
            · conv => whnf
              repeat' ((first | refine vb_t rfl ?_ | refine vb_f rfl ?_ | refine vb_t ‹_› ?_ | refine vb_f ‹_› ?_ | refine vor_l ?_ | fail) <;> conv => whnf)
              exact ⟨⟨(k + 1, (_, fr, to)), (by omega), hNj⟩, (by simp only; omega), (by repeat' (first | exact rfl | exact slot_eq (I_eq (iadd_one (by omega))) | (refine cons_eq ?_ ?_) | assumption)), rfl, rfl, rfl⟩
            · conv => whnf
              repeat' ((first | refine vb_t rfl ?_ | refine vb_f rfl ?_ | refine vb_t ‹_› ?_ | refine vb_f ‹_› ?_ | refine vor_l ?_ | fail) <;> conv => whnf)
              exact ⟨⟨(k + 1, (_, fr, to)), (by omega), hNj⟩, (by simp only; omega), (by repeat' (first | exact rfl | exact slot_eq (I_eq (iadd_one (by omega))) | (refine cons_eq ?_ ?_) | assumption)), rfl, rfl, rfl⟩
      · have hA : AutoK kd := hRep.resolve_left h3
        rw [pb_t hA] at hfl
        have hm := htn h3
        by_cases h5 : kd = 5
        · have q5 : ieq kd (Int.ofNat 5) = true := by rw [ieq_t]; exact h5
          have hNx := hN5 h5
          rcases s with ⟨ls, _ | ⟨t1, ts⟩, gl, gt⟩
          · conv => whnf
            repeat' ((first | refine vb_t rfl ?_ | refine vb_f rfl ?_ | refine vb_t ‹_› ?_ | refine vb_f ‹_› ?_ | refine vo_i hg ?_ | refine vpur_i hfl ?_ | refine vor_l ?_ | fail) <;> conv => whnf)
            refine vloop_cnh (α := Unit) m (fun j _ => 0 < j → ((repL j inner).foldl layQ (⟨ls, [], gl, gt⟩ : AxS)).ts.length ≤ 10000) (fun j _ => [(68, I (j : Int))]) (fun j _ => ixH fr to (.mk kd vn names t cn (.sl 11 (inner.map pcRow)) inner) ((repL j inner).foldl layQ (⟨ls, [], gl, gt⟩ : AxS))) () (fun h => by omega) rfl rfl ?_
            intro j _ hj hJ
            have hsj : (repL (j + 1) inner).foldl layQ (⟨ls, [], gl, gt⟩ : AxS) = inner.foldl layQ ((repL j inner).foldl layQ (⟨ls, [], gl, gt⟩ : AxS)) := repL_foldl
            have hbj := hbnd j (by omega)
            have hnej := fun h => hne h j
            have hNj := fun h : j = m => hNx ((repL j inner).foldl layQ (⟨ls, [], gl, gt⟩ : AxS)) (by rw [h])
            have hlj := hlay j _ hbj (by omega)
            have hlm := hlim j
            have htj := htr ((repL j inner).foldl layQ (⟨ls, [], gl, gt⟩ : AxS))
            have htgt : ∀ s', (repL j inner).foldl layQ (⟨ls, [], gl, gt⟩ : AxS) = s' → m = j → (repL m inner).foldl layQ (⟨ls, [], gl, gt⟩ : AxS) = s' := fun s' h1 h2 => by rw [h2]; exact h1
            rcases Nat.lt_or_ge j m with hjm | hjm
            · have wl : ilt (j : Int) n = true := by rw [ilt_t, ← hm]; omega
              have hlm := hlm hjm
              clear hlay hlim hbnd hne htr hNj htgt hNx hN5 hNn hbj
              by_cases hfull : 10000 < (inner.foldl layQ ((repL j inner).foldl layQ (⟨ls, [], gl, gt⟩ : AxS))).ts.length
              · rw [hlm hfull]
                clear hsj hlm
                generalize inner.foldl layQ ((repL j inner).foldl layQ (⟨ls, [], gl, gt⟩ : AxS)) = s2 at *
                generalize (repL j inner).foldl layQ (⟨ls, [], gl, gt⟩ : AxS) = s1 at *
                rcases s2 with ⟨ls2, _ | ⟨t2, ts2⟩, gl2, gt2⟩
                · exact (htj rfl).elim
                have wd : decide (10000 < (t2 :: ts2).length) = true := decide_eq_true hfull
                rcases s1 with ⟨ls1, _ | ⟨t3, ts1⟩, gl1, gt1⟩
                · conv => whnf
                  repeat' ((first | refine vb_t rfl ?_ | refine vb_f rfl ?_ | refine vb_t ‹_› ?_ | refine vb_f ‹_› ?_ | refine vcall_i hlj ?_ | refine vor_l ?_ | fail) <;> conv => whnf)
                  exact ⟨rfl, rfl⟩
                · conv => whnf
                  repeat' ((first | refine vb_t rfl ?_ | refine vb_f rfl ?_ | refine vb_t ‹_› ?_ | refine vb_f ‹_› ?_ | refine vcall_i hlj ?_ | refine vor_l ?_ | fail) <;> conv => whnf)
                  exact ⟨rfl, rfl⟩
              · have hJ2 : 0 < j + 1 → ((repL (j + 1) inner).foldl layQ (⟨ls, [], gl, gt⟩ : AxS)).ts.length ≤ 10000 := fun _ => by rw [hsj]; exact Nat.not_lt.1 hfull
                clear hlm hJ
                generalize inner.foldl layQ ((repL j inner).foldl layQ (⟨ls, [], gl, gt⟩ : AxS)) = s2 at *
                generalize (repL j inner).foldl layQ (⟨ls, [], gl, gt⟩ : AxS) = s1 at *
                rcases s2 with ⟨ls2, _ | ⟨t2, ts2⟩, gl2, gt2⟩
                · exact (htj rfl).elim
                have wd : decide (10000 < (t2 :: ts2).length) = false := decide_eq_false hfull
                rcases s1 with ⟨ls1, _ | ⟨t3, ts1⟩, gl1, gt1⟩
                · conv => whnf
                  repeat' ((first | refine vb_t rfl ?_ | refine vb_f rfl ?_ | refine vb_t ‹_› ?_ | refine vb_f ‹_› ?_ | refine vcall_i hlj ?_ | refine vor_l ?_ | fail) <;> conv => whnf)
                  exact ⟨⟨(j + 1, ()), (by omega), hJ2⟩, (by simp only; omega), (by repeat' (first | exact rfl | exact slot_eq (I_eq (iadd_one (by omega))) | (refine cons_eq ?_ ?_) | assumption)), congrArg (ixH fr to (.mk kd vn names t cn (.sl 11 (inner.map pcRow)) inner)) hsj.symm, rfl, rfl⟩
                · conv => whnf
                  repeat' ((first | refine vb_t rfl ?_ | refine vb_f rfl ?_ | refine vb_t ‹_› ?_ | refine vb_f ‹_› ?_ | refine vcall_i hlj ?_ | refine vor_l ?_ | fail) <;> conv => whnf)
                  exact ⟨⟨(j + 1, ()), (by omega), hJ2⟩, (by simp only; omega), (by repeat' (first | exact rfl | exact slot_eq (I_eq (iadd_one (by omega))) | (refine cons_eq ?_ ?_) | assumption)), congrArg (ixH fr to (.mk kd vn names t cn (.sl 11 (inner.map pcRow)) inner)) hsj.symm, rfl, rfl⟩
            · obtain rfl : j = m := by omega
              have wl : ilt (j : Int) n = false := by rw [ilt_f, ← hm]; omega
              have hNj := hNj rfl
              clear hlay hlim hbnd hne htr htgt hNx hN5 hNn hsj hlj hlm htj hJ
              generalize (repL j inner).foldl layQ (⟨ls, [], gl, gt⟩ : AxS) = s1 at *
              rcases s1 with ⟨ls1, _ | ⟨t3, ts1⟩, gl1, gt1⟩
              · conv => whnf
                repeat' ((first | refine vb_t rfl ?_ | refine vb_f rfl ?_ | refine vb_t ‹_› ?_ | refine vb_f ‹_› ?_ | refine vor_l ?_ | fail) <;> conv => whnf)
                exact ⟨⟨(k + 1, (_, (((⟨ls, [], gl, gt⟩ : AxS)).ts.length : Int), _)), (by omega), hNj⟩, (by simp only; omega), (by repeat' (first | exact rfl | exact slot_eq (I_eq (iadd_one (by omega))) | (refine cons_eq ?_ ?_) | assumption)), cons_eq rfl (cons_eq (fix_eq (cons_eq rfl (cons_eq rfl (cons_eq (I_eq (by simp)) (cons_eq (I_eq (by simp)) rfl))))) rfl), rfl, rfl⟩
              · conv => whnf
                repeat' ((first | refine vb_t rfl ?_ | refine vb_f rfl ?_ | refine vb_t ‹_› ?_ | refine vb_f ‹_› ?_ | refine vor_l ?_ | fail) <;> conv => whnf)
                exact ⟨⟨(k + 1, (_, (((⟨ls, [], gl, gt⟩ : AxS)).ts.length : Int), _)), (by omega), hNj⟩, (by simp only; omega), (by repeat' (first | exact rfl | exact slot_eq (I_eq (iadd_one (by omega))) | (refine cons_eq ?_ ?_) | assumption)), cons_eq rfl (cons_eq (fix_eq (cons_eq rfl (cons_eq rfl (cons_eq (I_eq (by simp)) (cons_eq (I_eq (by simp)) rfl))))) rfl), rfl, rfl⟩
          · conv => whnf
            repeat' ((first | refine vb_t rfl ?_ | refine vb_f rfl ?_ | refine vb_t ‹_› ?_ | refine vb_f ‹_› ?_ | refine vo_i hg ?_ | refine vpur_i hfl ?_ | refine vor_l ?_ | fail) <;> conv => whnf)
            refine vloop_cnh (α := Unit) m (fun j _ => 0 < j → ((repL j inner).foldl layQ (⟨ls, t1 :: ts, gl, gt⟩ : AxS)).ts.length ≤ 10000) (fun j _ => [(68, I (j : Int))]) (fun j _ => ixH fr to (.mk kd vn names t cn (.sl 11 (inner.map pcRow)) inner) ((repL j inner).foldl layQ (⟨ls, t1 :: ts, gl, gt⟩ : AxS))) () (fun h => by omega) rfl rfl ?_
            intro j _ hj hJ
            have hsj : (repL (j + 1) inner).foldl layQ (⟨ls, t1 :: ts, gl, gt⟩ : AxS) = inner.foldl layQ ((repL j inner).foldl layQ (⟨ls, t1 :: ts, gl, gt⟩ : AxS)) := repL_foldl
            have hbj := hbnd j (by omega)
            have hnej := fun h => hne h j
            have hNj := fun h : j = m => hNx ((repL j inner).foldl layQ (⟨ls, t1 :: ts, gl, gt⟩ : AxS)) (by rw [h])
            have hlj := hlay j _ hbj (by omega)
            have hlm := hlim j
            have htj := htr ((repL j inner).foldl layQ (⟨ls, t1 :: ts, gl, gt⟩ : AxS))
            have htgt : ∀ s', (repL j inner).foldl layQ (⟨ls, t1 :: ts, gl, gt⟩ : AxS) = s' → m = j → (repL m inner).foldl layQ (⟨ls, t1 :: ts, gl, gt⟩ : AxS) = s' := fun s' h1 h2 => by rw [h2]; exact h1
            rcases Nat.lt_or_ge j m with hjm | hjm
            · have wl : ilt (j : Int) n = true := by rw [ilt_t, ← hm]; omega
              have hlm := hlm hjm
              clear hlay hlim hbnd hne htr hNj htgt hNx hN5 hNn hbj
              by_cases hfull : 10000 < (inner.foldl layQ ((repL j inner).foldl layQ (⟨ls, t1 :: ts, gl, gt⟩ : AxS))).ts.length
              · rw [hlm hfull]
                clear hsj hlm
                generalize inner.foldl layQ ((repL j inner).foldl layQ (⟨ls, t1 :: ts, gl, gt⟩ : AxS)) = s2 at *
                generalize (repL j inner).foldl layQ (⟨ls, t1 :: ts, gl, gt⟩ : AxS) = s1 at *
                rcases s2 with ⟨ls2, _ | ⟨t2, ts2⟩, gl2, gt2⟩
                · exact (htj rfl).elim
                have wd : decide (10000 < (t2 :: ts2).length) = true := decide_eq_true hfull
                rcases s1 with ⟨ls1, _ | ⟨t3, ts1⟩, gl1, gt1⟩
                · conv => whnf
                  repeat' ((first | refine vb_t rfl ?_ | refine vb_f rfl ?_ | refine vb_t ‹_› ?_ | refine vb_f ‹_› ?_ | refine vcall_i hlj ?_ | refine vor_l ?_ | fail) <;> conv => whnf)
                  exact ⟨rfl, rfl⟩
                · conv => whnf
                  repeat' ((first | refine vb_t rfl ?_ | refine vb_f rfl ?_ | refine vb_t ‹_› ?_ | refine vb_f ‹_› ?_ | refine vcall_i hlj ?_ | refine vor_l ?_ | fail) <;> conv => whnf)
                  exact ⟨rfl, rfl⟩
              · have hJ2 : 0 < j + 1 → ((repL (j + 1) inner).foldl layQ (⟨ls, t1 :: ts, gl, gt⟩ : AxS)).ts.length ≤ 10000 := fun _ => by rw [hsj]; exact Nat.not_lt.1 hfull
                clear hlm hJ
                generalize inner.foldl layQ ((repL j inner).foldl layQ (⟨ls, t1 :: ts, gl, gt⟩ : AxS)) = s2 at *
                generalize (repL j inner).foldl layQ (⟨ls, t1 :: ts, gl, gt⟩ : AxS) = s1 at *
                rcases s2 with ⟨ls2, _ | ⟨t2, ts2⟩, gl2, gt2⟩
                · exact (htj rfl).elim
                have wd : decide (10000 < (t2 :: ts2).length) = false := decide_eq_false hfull
                rcases s1 with ⟨ls1, _ | ⟨t3, ts1⟩, gl1, gt1⟩
                · conv => whnf
                  repeat' ((first | refine vb_t rfl ?_ | refine vb_f rfl ?_ | refine vb_t ‹_› ?_ | refine vb_f ‹_› ?_ | refine vcall_i hlj ?_ | refine vor_l ?_ | fail) <;> conv => whnf)
                  exact ⟨⟨(j + 1, ()), (by omega), hJ2⟩, (by simp only; omega), (by repeat' (first | exact rfl | exact slot_eq (I_eq (iadd_one (by omega))) | (refine cons_eq ?_ ?_) | assumption)), congrArg (ixH fr to (.mk kd vn names t cn (.sl 11 (inner.map pcRow)) inner)) hsj.symm, rfl, rfl⟩
                · conv => whnf
                  repeat' ((first | refine vb_t rfl ?_ | refine vb_f rfl ?_ | refine vb_t ‹_› ?_ | refine vb_f ‹_› ?_ | refine vcall_i hlj ?_ | refine vor_l ?_ | fail) <;> conv => whnf)
                  exact ⟨⟨(j + 1, ()), (by omega), hJ2⟩, (by simp only; omega), (by repeat' (first | exact rfl | exact slot_eq (I_eq (iadd_one (by omega))) | (refine cons_eq ?_ ?_) | assumption)), congrArg (ixH fr to (.mk kd vn names t cn (.sl 11 (inner.map pcRow)) inner)) hsj.symm, rfl, rfl⟩
            · obtain rfl : j = m := by omega
              have wl : ilt (j : Int) n = false := by rw [ilt_f, ← hm]; omega
              have hNj := hNj rfl
              clear hlay hlim hbnd hne htr htgt hNx hN5 hNn hsj hlj hlm htj hJ
              generalize (repL j inner).foldl layQ (⟨ls, t1 :: ts, gl, gt⟩ : AxS) = s1 at *
              rcases s1 with ⟨ls1, _ | ⟨t3, ts1⟩, gl1, gt1⟩
              · conv => whnf
                repeat' ((first | refine vb_t rfl ?_ | refine vb_f rfl ?_ | refine vb_t ‹_› ?_ | refine vb_f ‹_› ?_ | refine vor_l ?_ | fail) <;> conv => whnf)
                exact ⟨⟨(k + 1, (_, (((⟨ls, t1 :: ts, gl, gt⟩ : AxS)).ts.length : Int), _)), (by omega), hNj⟩, (by simp only; omega), (by repeat' (first | exact rfl | exact slot_eq (I_eq (iadd_one (by omega))) | (refine cons_eq ?_ ?_) | assumption)), cons_eq rfl (cons_eq (fix_eq (cons_eq rfl (cons_eq rfl (cons_eq (I_eq (by simp)) (cons_eq (I_eq (by simp)) rfl))))) rfl), rfl, rfl⟩
              · conv => whnf
                repeat' ((first | refine vb_t rfl ?_ | refine vb_f rfl ?_ | refine vb_t ‹_› ?_ | refine vb_f ‹_› ?_ | refine vor_l ?_ | fail) <;> conv => whnf)
                exact ⟨⟨(k + 1, (_, (((⟨ls, t1 :: ts, gl, gt⟩ : AxS)).ts.length : Int), _)), (by omega), hNj⟩, (by simp only; omega), (by repeat' (first | exact rfl | exact slot_eq (I_eq (iadd_one (by omega))) | (refine cons_eq ?_ ?_) | assumption)), cons_eq rfl (cons_eq (fix_eq (cons_eq rfl (cons_eq rfl (cons_eq (I_eq (by simp)) (cons_eq (I_eq (by simp)) rfl))))) rfl), rfl, rfl⟩
        · have q5 : ieq kd (Int.ofNat 5) = false := by rw [ieq_f]; exact h5
          have hNx := hNn h5
          rcases s with ⟨ls, _ | ⟨t1, ts⟩, gl, gt⟩
          · conv => whnf
            repeat' ((first | refine vb_t rfl ?_ | refine vb_f rfl ?_ | refine vb_t ‹_› ?_ | refine vb_f ‹_› ?_ | refine vo_i hg ?_ | refine vpur_i hfl ?_ | refine vor_l ?_ | fail) <;> conv => whnf)
            refine vloop_cnh (α := Unit) m (fun j _ => 0 < j → ((repL j inner).foldl layQ (⟨ls, [], gl, gt⟩ : AxS)).ts.length ≤ 10000) (fun j _ => [(68, I (j : Int))]) (fun j _ => ixH fr to (.mk kd vn names t cn (.sl 11 (inner.map pcRow)) inner) ((repL j inner).foldl layQ (⟨ls, [], gl, gt⟩ : AxS))) () (fun h => by omega) rfl rfl ?_
            intro j _ hj hJ
            have hsj : (repL (j + 1) inner).foldl layQ (⟨ls, [], gl, gt⟩ : AxS) = inner.foldl layQ ((repL j inner).foldl layQ (⟨ls, [], gl, gt⟩ : AxS)) := repL_foldl
            have hbj := hbnd j (by omega)
            have hnej := fun h => hne h j
            have hNj := fun h : j = m => hNx ((repL j inner).foldl layQ (⟨ls, [], gl, gt⟩ : AxS)) (by rw [h])
            have hlj := hlay j _ hbj (by omega)
            have hlm := hlim j
            have htj := htr ((repL j inner).foldl layQ (⟨ls, [], gl, gt⟩ : AxS))
            have htgt : ∀ s', (repL j inner).foldl layQ (⟨ls, [], gl, gt⟩ : AxS) = s' → m = j → (repL m inner).foldl layQ (⟨ls, [], gl, gt⟩ : AxS) = s' := fun s' h1 h2 => by rw [h2]; exact h1
            rcases Nat.lt_or_ge j m with hjm | hjm
            · have wl : ilt (j : Int) n = true := by rw [ilt_t, ← hm]; omega
              have hlm := hlm hjm
              clear hlay hlim hbnd hne htr hNj htgt hNx hN5 hNn hbj
              by_cases hfull : 10000 < (inner.foldl layQ ((repL j inner).foldl layQ (⟨ls, [], gl, gt⟩ : AxS))).ts.length
              · rw [hlm hfull]
                clear hsj hlm
                generalize inner.foldl layQ ((repL j inner).foldl layQ (⟨ls, [], gl, gt⟩ : AxS)) = s2 at *
                generalize (repL j inner).foldl layQ (⟨ls, [], gl, gt⟩ : AxS) = s1 at *
                rcases s2 with ⟨ls2, _ | ⟨t2, ts2⟩, gl2, gt2⟩
                · exact (htj rfl).elim
                have wd : decide (10000 < (t2 :: ts2).length) = true := decide_eq_true hfull
                rcases s1 with ⟨ls1, _ | ⟨t3, ts1⟩, gl1, gt1⟩
                · conv => whnf
                  repeat' ((first | refine vb_t rfl ?_ | refine vb_f rfl ?_ | refine vb_t ‹_› ?_ | refine vb_f ‹_› ?_ | refine vcall_i hlj ?_ | refine vor_l ?_ | fail) <;> conv => whnf)
                  exact ⟨rfl, rfl⟩
                · conv => whnf
                  repeat' ((first | refine vb_t rfl ?_ | refine vb_f rfl ?_ | refine vb_t ‹_› ?_ | refine vb_f ‹_› ?_ | refine vcall_i hlj ?_ | refine vor_l ?_ | fail) <;> conv => whnf)
                  exact ⟨rfl, rfl⟩
              · have hJ2 : 0 < j + 1 → ((repL (j + 1) inner).foldl layQ (⟨ls, [], gl, gt⟩ : AxS)).ts.length ≤ 10000 := fun _ => by rw [hsj]; exact Nat.not_lt.1 hfull
                clear hlm hJ
                generalize inner.foldl layQ ((repL j inner).foldl layQ (⟨ls, [], gl, gt⟩ : AxS)) = s2 at *
                generalize (repL j inner).foldl layQ (⟨ls, [], gl, gt⟩ : AxS) = s1 at *
                rcases s2 with ⟨ls2, _ | ⟨t2, ts2⟩, gl2, gt2⟩
                · exact (htj rfl).elim
                have wd : decide (10000 < (t2 :: ts2).length) = false := decide_eq_false hfull
                rcases s1 with ⟨ls1, _ | ⟨t3, ts1⟩, gl1, gt1⟩
                · conv => whnf
                  repeat' ((first | refine vb_t rfl ?_ | refine vb_f rfl ?_ | refine vb_t ‹_› ?_ | refine vb_f ‹_› ?_ | refine vcall_i hlj ?_ | refine vor_l ?_ | fail) <;> conv => whnf)
                  exact ⟨⟨(j + 1, ()), (by omega), hJ2⟩, (by simp only; omega), (by repeat' (first | exact rfl | exact slot_eq (I_eq (iadd_one (by omega))) | (refine cons_eq ?_ ?_) | assumption)), congrArg (ixH fr to (.mk kd vn names t cn (.sl 11 (inner.map pcRow)) inner)) hsj.symm, rfl, rfl⟩
                · conv => whnf
                  repeat' ((first | refine vb_t rfl ?_ | refine vb_f rfl ?_ | refine vb_t ‹_› ?_ | refine vb_f ‹_› ?_ | refine vcall_i hlj ?_ | refine vor_l ?_ | fail) <;> conv => whnf)
                  exact ⟨⟨(j + 1, ()), (by omega), hJ2⟩, (by simp only; omega), (by repeat' (first | exact rfl | exact slot_eq (I_eq (iadd_one (by omega))) | (refine cons_eq ?_ ?_) | assumption)), congrArg (ixH fr to (.mk kd vn names t cn (.sl 11 (inner.map pcRow)) inner)) hsj.symm, rfl, rfl⟩
            · obtain rfl : j = m := by omega
              have wl : ilt (j : Int) n = false := by rw [ilt_f, ← hm]; omega
              have hNj := hNj rfl
              clear hlay hlim hbnd hne htr htgt hNx hN5 hNn hsj hlj hlm htj hJ
              generalize (repL j inner).foldl layQ (⟨ls, [], gl, gt⟩ : AxS) = s1 at *
              rcases s1 with ⟨ls1, _ | ⟨t3, ts1⟩, gl1, gt1⟩
              · conv => whnf
                repeat' ((first | refine vb_t rfl ?_ | refine vb_f rfl ?_ | refine vb_t ‹_› ?_ | refine vb_f ‹_› ?_ | refine vor_l ?_ | fail) <;> conv => whnf)
                exact ⟨⟨(k + 1, (_, fr, to)), (by omega), hNj⟩, (by simp only; omega), (by repeat' (first | exact rfl | exact slot_eq (I_eq (iadd_one (by omega))) | (refine cons_eq ?_ ?_) | assumption)), rfl, rfl, rfl⟩
              · conv => whnf
                repeat' ((first | refine vb_t rfl ?_ | refine vb_f rfl ?_ | refine vb_t ‹_› ?_ | refine vb_f ‹_› ?_ | refine vor_l ?_ | fail) <;> conv => whnf)
                exact ⟨⟨(k + 1, (_, fr, to)), (by omega), hNj⟩, (by simp only; omega), (by repeat' (first | exact rfl | exact slot_eq (I_eq (iadd_one (by omega))) | (refine cons_eq ?_ ?_) | assumption)), rfl, rfl, rfl⟩
          · conv => whnf
            repeat' ((first | refine vb_t rfl ?_ | refine vb_f rfl ?_ | refine vb_t ‹_› ?_ | refine vb_f ‹_› ?_ | refine vo_i hg ?_ | refine vpur_i hfl ?_ | refine vor_l ?_ | fail) <;> conv => whnf)
            refine vloop_cnh (α := Unit) m (fun j _ => 0 < j → ((repL j inner).foldl layQ (⟨ls, t1 :: ts, gl, gt⟩ : AxS)).ts.length ≤ 10000) (fun j _ => [(68, I (j : Int))]) (fun j _ => ixH fr to (.mk kd vn names t cn (.sl 11 (inner.map pcRow)) inner) ((repL j inner).foldl layQ (⟨ls, t1 :: ts, gl, gt⟩ : AxS))) () (fun h => by omega) rfl rfl ?_
            intro j _ hj hJ
            have hsj : (repL (j + 1) inner).foldl layQ (⟨ls, t1 :: ts, gl, gt⟩ : AxS) = inner.foldl layQ ((repL j inner).foldl layQ (⟨ls, t1 :: ts, gl, gt⟩ : AxS)) := repL_foldl
            have hbj := hbnd j (by omega)
            have hnej := fun h => hne h j
            have hNj := fun h : j = m => hNx ((repL j inner).foldl layQ (⟨ls, t1 :: ts, gl, gt⟩ : AxS)) (by rw [h])
            have hlj := hlay j _ hbj (by omega)
            have hlm := hlim j
            have htj := htr ((repL j inner).foldl layQ (⟨ls, t1 :: ts, gl, gt⟩ : AxS))
            have htgt : ∀ s', (repL j inner).foldl layQ (⟨ls, t1 :: ts, gl, gt⟩ : AxS) = s' → m = j → (repL m inner).foldl layQ (⟨ls, t1 :: ts, gl, gt⟩ : AxS) = s' := fun s' h1 h2 => by rw [h2]; exact h1
            rcases Nat.lt_or_ge j m with hjm | hjm
            · have wl : ilt (j : Int) n = true := by rw [ilt_t, ← hm]; omega
              have hlm := hlm hjm
              clear hlay hlim hbnd hne htr hNj htgt hNx hN5 hNn hbj
              by_cases hfull : 10000 < (inner.foldl layQ ((repL j inner).foldl layQ (⟨ls, t1 :: ts, gl, gt⟩ : AxS))).ts.length
              · rw [hlm hfull]
                clear hsj hlm
                generalize inner.foldl layQ ((repL j inner).foldl layQ (⟨ls, t1 :: ts, gl, gt⟩ : AxS)) = s2 at *
                generalize (repL j inner).foldl layQ (⟨ls, t1 :: ts, gl, gt⟩ : AxS) = s1 at *
                rcases s2 with ⟨ls2, _ | ⟨t2, ts2⟩, gl2, gt2⟩
                · exact (htj rfl).elim
                have wd : decide (10000 < (t2 :: ts2).length) = true := decide_eq_true hfull
                rcases s1 with ⟨ls1, _ | ⟨t3, ts1⟩, gl1, gt1⟩
                · conv => whnf
                  repeat' ((first | refine vb_t rfl ?_ | refine vb_f rfl ?_ | refine vb_t ‹_› ?_ | refine vb_f ‹_› ?_ | refine vcall_i hlj ?_ | refine vor_l ?_ | fail) <;> conv => whnf)
                  exact ⟨rfl, rfl⟩
                · conv => whnf
                  repeat' ((first | refine vb_t rfl ?_ | refine vb_f rfl ?_ | refine vb_t ‹_› ?_ | refine vb_f ‹_› ?_ | refine vcall_i hlj ?_ | refine vor_l ?_ | fail) <;> conv => whnf)
                  exact ⟨rfl, rfl⟩
              · have hJ2 : 0 < j + 1 → ((repL (j + 1) inner).foldl layQ (⟨ls, t1 :: ts, gl, gt⟩ : AxS)).ts.length ≤ 10000 := fun _ => by rw [hsj]; exact Nat.not_lt.1 hfull
                clear hlm hJ
                generalize inner.foldl layQ ((repL j inner).foldl layQ (⟨ls, t1 :: ts, gl, gt⟩ : AxS)) = s2 at *
                generalize (repL j inner).foldl layQ (⟨ls, t1 :: ts, gl, gt⟩ : AxS) = s1 at *
                rcases s2 with ⟨ls2, _ | ⟨t2, ts2⟩, gl2, gt2⟩
                · exact (htj rfl).elim
                have wd : decide (10000 < (t2 :: ts2).length) = false := decide_eq_false hfull
                rcases s1 with ⟨ls1, _ | ⟨t3, ts1⟩, gl1, gt1⟩
                · conv => whnf
                  repeat' ((first | refine vb_t rfl ?_ | refine vb_f rfl ?_ | refine vb_t ‹_› ?_ | refine vb_f ‹_› ?_ | refine vcall_i hlj ?_ | refine vor_l ?_ | fail) <;> conv => whnf)
                  exact ⟨⟨(j + 1, ()), (by omega), hJ2⟩, (by simp only; omega), (by repeat' (first | exact rfl | exact slot_eq (I_eq (iadd_one (by omega))) | (refine cons_eq ?_ ?_) | assumption)), congrArg (ixH fr to (.mk kd vn names t cn (.sl 11 (inner.map pcRow)) inner)) hsj.symm, rfl, rfl⟩
                · conv => whnf
                  repeat' ((first | refine vb_t rfl ?_ | refine vb_f rfl ?_ | refine vb_t ‹_› ?_ | refine vb_f ‹_› ?_ | refine vcall_i hlj ?_ | refine vor_l ?_ | fail) <;> conv => whnf)
                  exact ⟨⟨(j + 1, ()), (by omega), hJ2⟩, (by simp only; omega), (by repeat' (first | exact rfl | exact slot_eq (I_eq (iadd_one (by omega))) | (refine cons_eq ?_ ?_) | assumption)), congrArg (ixH fr to (.mk kd vn names t cn (.sl 11 (inner.map pcRow)) inner)) hsj.symm, rfl, rfl⟩
            · obtain rfl : j = m := by omega
              have wl : ilt (j : Int) n = false := by rw [ilt_f, ← hm]; omega
              have hNj := hNj rfl
              clear hlay hlim hbnd hne htr htgt hNx hN5 hNn hsj hlj hlm htj hJ
              generalize (repL j inner).foldl layQ (⟨ls, t1 :: ts, gl, gt⟩ : AxS) = s1 at *
              rcases s1 with ⟨ls1, _ | ⟨t3, ts1⟩, gl1, gt1⟩
              · conv => whnf
                repeat' ((first | refine vb_t rfl ?_ | refine vb_f rfl ?_ | refine vb_t ‹_› ?_ | refine vb_f ‹_› ?_ | refine vor_l ?_ | fail) <;> conv => whnf)
                exact ⟨⟨(k + 1, (_, fr, to)), (by omega), hNj⟩, (by simp only; omega), (by repeat' (first | exact rfl | exact slot_eq (I_eq (iadd_one (by omega))) | (refine cons_eq ?_ ?_) | assumption)), rfl, rfl, rfl⟩
              · conv => whnf
                repeat' ((first | refine vb_t rfl ?_ | refine vb_f rfl ?_ | refine vb_t ‹_› ?_ | refine vb_f ‹_› ?_ | refine vor_l ?_ | fail) <;> conv => whnf)
                exact ⟨⟨(k + 1, (_, fr, to)), (by omega), hNj⟩, (by simp only; omega), (by repeat' (first | exact rfl | exact slot_eq (I_eq (iadd_one (by omega))) | (refine cons_eq ?_ ?_) | assumption)), rfl, rfl, rfl⟩
  · obtain rfl : k = l.length := by omega
    have hl := nlt_len (f := pcRow) (Nat.not_lt.2 (Nat.le_refl l.length))
    obtain ⟨hB, hI⟩ := hI
    rw [List.take_length] at hI
    rcases hI with ⟨hX, hle⟩ | ⟨h1, h2⟩
    · rw [← hX]
      unfold axA
      rw [if_pos hle]
      have hbl := hB.1
      have hgl1 : ∀ g : Nat, Nat.beq g g = true := fun g => by simp
      rcases s with ⟨ls, _ | ⟨t1, ts⟩, gl, gt⟩
      · have hg1 := hgl1 gl
        conv => whnf
        repeat' ((first | refine vb_t rfl ?_ | refine vb_f rfl ?_ | refine vb_t ‹_› ?_ | refine vb_f ‹_› ?_ | refine vor_l ?_ | fail) <;> conv => whnf)
        refine ⟨?_, rfl⟩
        show CR.ret (AV.tup [.agg [.d (.sl 1 (((ls.map lnRow).take ls.length).drop 0)), .d .nilsl, I fr, I to], I 0]) = _
        rw [List.drop_zero, List.take_of_length_le (by simp)]
        rfl
      · have wd : decide (10000 < (t1 :: ts).length) = false := decide_eq_false (Nat.not_lt.2 hle)
        have hg1 := hgl1 gl
        have hg2 := hgl1 gt
        conv => whnf
        repeat' ((first | refine vb_t rfl ?_ | refine vb_f rfl ?_ | refine vb_t ‹_› ?_ | refine vb_f ‹_› ?_ | refine vor_l ?_ | fail) <;> conv => whnf)
        refine ⟨?_, rfl⟩
        show CR.ret (AV.tup [.agg [.d (.sl 1 (((ls.map lnRow).take ls.length).drop 0)), .d (.sl 7 ((((t1 :: ts).map trkRow).take (t1 :: ts).length).drop 0)), I fr, I to], I 0]) = _
        rw [List.drop_zero, List.take_of_length_le (by simp), List.drop_zero, List.take_of_length_le (by simp)]
        rfl
    · have hA : axA (axF n l) = .tup [.agg [.d .nilsl, .d .nilsl, I 0, I 0], I 52] := by
        unfold axA
        rw [if_neg (Nat.not_le.2 h2)]
      rw [hA]
      rcases s with ⟨ls, _ | ⟨t1, ts⟩, gl, gt⟩
      · simp at h1
      · have wd : decide (10000 < (t1 :: ts).length) = true := decide_eq_true h1
        conv => whnf
        repeat' ((first | refine vb_t rfl ?_ | refine vb_f rfl ?_ | refine vb_t ‹_› ?_ | refine vb_f ‹_› ?_ | refine vor_l ?_ | fail) <;> conv => whnf)
        exact ⟨rfl, rfl⟩
end Go.Proofs.YtjeblkicgmmhiaaGreatDoor.Ab
namespace Go.Proofs.YtjeblkicgmmhiaaGreatDoor.Ab
open Go
set_option linter.unusedSimpArgs false
set_option linter.unusedVariables false
end Go.Proofs.YtjeblkicgmmhiaaGreatDoor.Ab
namespace Go.Proofs.YtjeblkicgmmhiaaGreatDoor.Ab
open Go
set_option linter.unusedSimpArgs false
set_option linter.unusedVariables false
def trs : List Pc → List Trk
  | [] => []
  | q :: L => if q.kind = 1 then trs L else q.t :: trs L
theorem trs_cons {q : Pc} {L : List Pc} : trs (q :: L) = if q.kind = 1 then trs L else q.t :: trs L := rfl
theorem lay_trs {L : List Pc} : ∀ {s : AxS}, (L.foldl layQ s).ts = s.ts ++ trs L := by
  induction L with
  | nil => intro s; simp [trs]
  | cons q L ih =>
    intro s
    rw [List.foldl_cons, ih]
    rw [trs_cons]
    unfold layQ
    split
    · rfl
    · simp
/-- Breadths and gaps of tracks; of those among pieces. -/
def gS (size gap : Int) : List Trk → Int
  | [] => 0
  | t :: r => ((brS t size).1 + gap) + gS size gap r
def gI (size gap : Int) : List Pc → Int
  | [] => 0
  | q :: L => (if q.kind = 2 then (brS q.t size).1 + gap else 0) + gI size gap L
theorem gI_cons {size gap : Int} {q : Pc} {L : List Pc} : gI size gap (q :: L) = (if q.kind = 2 then (brS q.t size).1 + gap else 0) + gI size gap L := rfl
theorem gS_append {size gap : Int} (a b : List Trk) : gS size gap (a ++ b) = gS size gap a + gS size gap b := by
  induction a with
  | nil => simp [gS]
  | cons t a ih => simp only [List.cons_append, gS, ih]; omega
theorem gI_append {size gap : Int} (a b : List Pc) : gI size gap (a ++ b) = gI size gap a + gI size gap b := by
  induction a with
  | nil => simp [gI]
  | cons t a ih => simp only [List.cons_append, gI, ih]; omega
theorem gS_trs {size gap : Int} {L : List Pc} (h : ∀ q ∈ L, q.kind = 1 ∨ q.kind = 2) : gS size gap (trs L) = gI size gap L := by
  induction L with
  | nil => rfl
  | cons q L ih =>
    have hq := h q (List.mem_cons_self ..)
    have ih := ih fun p hp => h p (List.mem_cons_of_mem _ hp)
    rw [trs_cons, gI_cons]
    by_cases hk : q.kind = 1
    · rw [if_pos hk, if_neg (by omega), ih]; omega
    · rw [if_neg hk, if_pos (hq.resolve_left hk)]
      simp only [gS, ih]
theorem gI_rep {size gap : Int} {L : List Pc} (m : Nat) : gI size gap (repL m L) = m * gI size gap L := by
  induction m with
  | zero => simp [repL, gI]
  | succ m ih =>
    show gI size gap (repL m L ++ L) = _
    rw [gI_append, ih, Int.natCast_succ, Int.add_mul, Int.one_mul]
/-- The sums, if what fills is taken so often. -/
def csV (m : Int) (C : Cs) : Int := C.s0 + m * C.s1
theorem csV_map {size gap m : Int} {c : Int} : ∀ (L : List Pc) (C : Cs), csV m ((L.map fun q => (q, c)).foldl (ctU size gap) C) = csV m C + (if c = 0 then m else c) * gI size gap L
  | [], C => by simp [gI]
  | q :: L, C => by
    simp only [List.map_cons, List.foldl_cons]
    rw [csV_map L]
    rw [gI_cons]
    unfold ctU csV
    simp only
    by_cases hk : q.kind = 2
    · rw [if_pos hk, if_pos hk]
      by_cases hc : c = 0
      · rw [if_pos hc, if_pos hc]; simp only [Int.mul_add]; omega
      · rw [if_neg hc, if_neg hc]; simp only [Int.mul_add]; omega
    · rw [if_neg hk, if_neg hk]; simp
theorem itP_kinds {n : Int} {p : Pc} (hi : ∀ q ∈ p.inner, q.kind = 1 ∨ q.kind = 2) : ∀ q ∈ itP n p, q.kind = 1 ∨ q.kind = 2 := by
  intro q hq
  unfold itP at hq
  split at hq
  · rename_i h; rw [List.mem_singleton.1 hq]; exact h
  · exact hi q (repL_mem hq)
theorem csV_item {size gap : Int} {m : Int} (hm : 0 ≤ m) {p : Pc} (ha : AloneP p) (C : Cs) : csV m ((plI p).foldl (ctU size gap) C) = csV m C + gI size gap (itP m p) := by
  unfold plI itP
  by_cases h12 : p.kind = 1 ∨ p.kind = 2
  · rw [if_pos h12, if_pos h12]
    have := csV_map (size := size) (gap := gap) (m := m) (c := 1) [p] C
    rw [if_neg (by decide), Int.one_mul] at this
    exact this
  · rw [if_neg h12, if_neg h12, csV_map, gI_rep]
    congr 2
    unfold tmN
    rcases ha with ⟨h, _⟩ | ⟨h, _⟩ | ⟨h, h1, _⟩ | ⟨h, _, _, h1⟩
    · omega
    · omega
    · rw [if_neg (by omega), if_pos h]; omega
    · rw [if_pos h1, if_neg (by unfold AutoK at h; omega)]; omega
theorem axF_gS {size gap : Int} {m : Int} (hm : 0 ≤ m) : ∀ (l : List Pc) (x : AxS × Int × Int) (C : Cs), (∀ p ∈ l, AloneP p ∧ ∀ q ∈ p.inner, q.kind = 1 ∨ q.kind = 2) → gS size gap x.1.ts = csV m C →
    gS size gap (l.foldl (axP m) x).1.ts = csV m ((plP l).foldl (ctU size gap) C)
  | [], x, C, _, h => h
  | p :: l, x, C, hl, h => by
    simp only [List.foldl_cons, plP, List.foldl_append]
    refine axF_gS hm l _ _ (fun q hq => hl q (List.mem_cons_of_mem _ hq)) ?_
    obtain ⟨h1, h2⟩ := hl p (List.mem_cons_self ..)
    rw [csV_item hm h1]
    unfold axP
    simp only
    rw [lay_trs, gS_append, h, gS_trs (itP_kinds h2)]
/-- What law's total comes to. -/
def tlS (size gap : Int) : List Trk → Bool → Int → Int × Bool
  | [], _, s => (s, true)
  | t :: r, b, s => if (brS t size).2 ≠ 0 ∨ 1099511627776 < s then (s, decide ((brS t size).2 = 0)) else tlS size gap r true ((if b = true then s + gap else s) + (brS t size).1)
theorem tlS_ok {size gap : Int} (hg : 0 ≤ gap) : ∀ (ts : List Trk) (s : Int), (∀ t ∈ ts, (brS t size).2 = 0) → (tlS size gap ts true s).2 = true ∧ (tlS size gap ts true s).1 ≤ s + gS size gap ts ∧ ((tlS size gap ts true s).1 = s + gS size gap ts ∨ 1099511627776 < (tlS size gap ts true s).1)
  | [], s, _ => by simp [tlS, gS]
  | t :: r, s, h => by
    have ht := h t (List.mem_cons_self ..)
    have hnn : ∀ (r : List Trk), 0 ≤ gS size gap r := by
      intro r
      induction r with
      | nil => simp [gS]
      | cons t r ih =>
        have := brS_nn t size
        simp only [gS]; omega
    have hb := brS_nn t size
    unfold tlS
    by_cases hs : 1099511627776 < s
    · rw [if_pos (.inr hs)]
      have := hnn (t :: r)
      exact ⟨decide_eq_true ht, by simp only; omega, .inr hs⟩
    · rw [if_neg (by rintro (h | h); exact h ht; exact hs h), if_pos rfl]
      obtain ⟨h1, h2, h3⟩ := tlS_ok hg r (s + gap + (brS t size).1) fun q hq => h q (List.mem_cons_of_mem _ hq)
      simp only [gS]
      exact ⟨h1, by omega, by omega⟩
theorem tlS_all {size gap : Int} (hg : 0 ≤ gap) (ts : List Trk) (h0 : ts ≠ []) (h : ∀ t ∈ ts, (brS t size).2 = 0) : (tlS size gap ts false 0).2 = true ∧ (tlS size gap ts false 0).1 ≤ gS size gap ts - gap ∧ ((tlS size gap ts false 0).1 = gS size gap ts - gap ∨ 1099511627776 < (tlS size gap ts false 0).1) := by
  cases ts with
  | nil => exact (h0 rfl).elim
  | cons t r =>
    have ht := h t (List.mem_cons_self ..)
    unfold tlS
    rw [if_neg (by rintro (h | h); exact h ht; exact absurd h (by decide)), if_neg (by decide)]
    obtain ⟨h1, h2, h3⟩ := tlS_ok (size := size) hg r (0 + (brS t size).1) fun q hq => h q (List.mem_cons_of_mem _ hq)
    simp only [gS]
    exact ⟨h1, by omega, by omega⟩
/-! One time more. -/
def moreP (m : Int) : Pc → Pc
  | .mk k vn names t c vi inner => if AutoK k then .mk 3 vn names t m vi inner else .mk k vn names t c vi inner
theorem more_eq {m k : Int} {vn : DV} {names : List (List UInt8)} {t : Trk} {c : Int} {vi : DV} {inner : List Pc} : moreP m (.mk k vn names t c vi inner) = if AutoK k then .mk 3 vn names t m vi inner else .mk k vn names t c vi inner := rfl
theorem more_k1 {m : Int} {p : Pc} : (moreP m p).kind = 1 ↔ p.kind = 1 := by
  cases p with
  | mk k vn names t c vi inner =>
  rw [more_eq]
  by_cases h : AutoK k
  · rw [if_pos h]
    show (3 : Int) = 1 ↔ k = 1
    unfold AutoK at h; omega
  · rw [if_neg h]
theorem more_inner {m : Int} {p : Pc} : (moreP m p).inner = p.inner := by
  cases p with
  | mk k vn names t c vi inner => rw [more_eq]; split <;> rfl
theorem more_rep {m : Int} {p : Pc} : RepK (moreP m p).kind ↔ RepK p.kind := by
  cases p with
  | mk k vn names t c vi inner =>
  rw [more_eq]
  by_cases h : AutoK k
  · rw [if_pos h]
    exact ⟨fun _ => .inr h, fun _ => .inl rfl⟩
  · rw [if_neg h]
theorem more_auto {m : Int} {p : Pc} : ¬ AutoK (moreP m p).kind := by
  cases p with
  | mk k vn names t c vi inner =>
  rw [more_eq]
  by_cases h : AutoK k
  · rw [if_pos h]
    show ¬ AutoK 3
    decide
  · rw [if_neg h]; exact h
theorem more_alone {m : Int} (h1 : 1 ≤ m) (h2 : m ≤ 10000) {p : Pc} (ha : AloneP p) : AloneP (moreP m p) := by
  cases p with
  | mk k vn names t c vi inner =>
  rw [more_eq]
  by_cases h : AutoK k
  · rw [if_pos h]
    rcases ha with ⟨g, _⟩ | ⟨g, _⟩ | ⟨g, _⟩ | ⟨g, g1, g2, _⟩
    · have : k = 1 := g; unfold AutoK at h; omega
    · have : k = 2 := g; unfold AutoK at h; omega
    · have : k = 3 := g; unfold AutoK at h; omega
    · exact .inr (.inr (.inl ⟨rfl, h1, h2, g1, g2⟩))
  · rw [if_neg h]; exact ha
theorem good_more {l : List Pc} {m : Int} (h1 : 1 ≤ m) (h2 : m ≤ 10000) (hG : GoodP l) : GoodP (l.map (moreP m)) := by
  rcases hG with rfl | ⟨g1, g2, g3, g4, g5⟩
  · exact .inl rfl
  · obtain ⟨a1, ⟨a2, a3⟩, a4⟩ := listed_false.1 g1
    have hget : ∀ (i : Nat) (p : Pc), (l.map (moreP m))[i]? = some p → ∃ q, l[i]? = some q ∧ p = moreP m q := fun i p h => by
      rw [List.getElem?_map] at h
      cases hq : l[i]? with
      | none => rw [hq] at h; cases h
      | some q => rw [hq] at h; exact ⟨q, rfl, (Option.some.inj h).symm⟩
    have hau : autN (l.map (moreP m)) = 0 := by
      have : ∀ l : List Pc, autN (l.map (moreP m)) = 0 := fun l => by
        induction l with
        | nil => rfl
        | cons p l ih => simp only [List.map_cons, autN, if_neg more_auto, ih]
      exact this l
    have hin : innN (l.map (moreP m)) = innN l := by
      have : ∀ l : List Pc, innN (l.map (moreP m)) = innN l := fun l => by
        induction l with
        | nil => rfl
        | cons p l ih =>
          simp only [List.map_cons, innN, ih, more_inner]
          by_cases h : RepK p.kind
          · rw [if_pos h, if_pos (more_rep.2 h)]
          · rw [if_neg h, if_neg fun e => h (more_rep.1 e)]
      exact this l
    refine .inr ⟨listed_false.2 ⟨by simpa using a1, ⟨fun i p hp => ?_, ?_⟩, fun p hp => ?_⟩, fun p hp hr => ?_, by rw [hin, List.length_map]; exact g3, by omega, fun h => by omega⟩
    · obtain ⟨q, hq, rfl⟩ := hget i p hp
      rintro ⟨hk, hi, r, hr, hrk⟩
      obtain ⟨r', hr', rfl⟩ := hget _ r hr
      exact a2 i q hq ⟨more_k1.1 hk, hi, r', hr', more_k1.1 hrk⟩
    · obtain ⟨i, p, hp, hk⟩ := a3
      exact ⟨i, moreP m p, by rw [List.getElem?_map, hp]; rfl, fun e => hk (more_k1.1 e)⟩
    · obtain ⟨q, hq, rfl⟩ := List.mem_map.1 hp
      exact more_alone h1 h2 (a4 q hq)
    · obtain ⟨q, hq, rfl⟩ := List.mem_map.1 hp
      rw [more_inner]
      exact g2 q hq (more_rep.1 hr)
theorem itP_more {m : Int} {p : Pc} (ha : AloneP p) : itP 0 (moreP m p) = itP m p ∨ (∃ q, q = p ∧ itP 0 (moreP m p) = [moreP m p] ∧ itP m p = [p] ∧ moreP m p = p) := by
  cases p with
  | mk k vn names t c vi inner =>
  rw [more_eq]
  by_cases h : AutoK k
  · rw [if_pos h]
    refine .inl ?_
    unfold itP tmN
    have hk : ¬ (k = 1 ∨ k = 2) := by unfold AutoK at h; omega
    have hk3 : ¬ k = 3 := by unfold AutoK at h; omega
    rw [if_neg (show ¬ ((Pc.mk 3 vn names t m vi inner).kind = 1 ∨ (Pc.mk 3 vn names t m vi inner).kind = 2) from by show ¬ ((3 : Int) = 1 ∨ (3 : Int) = 2); decide), if_neg (show ¬ ((Pc.mk k vn names t c vi inner).kind = 1 ∨ (Pc.mk k vn names t c vi inner).kind = 2) from hk),
      if_pos (show (Pc.mk 3 vn names t m vi inner).kind = 3 from rfl), if_neg (show ¬ (Pc.mk k vn names t c vi inner).kind = 3 from hk3)]
    rfl
  · rw [if_neg h]
    by_cases h12 : k = 1 ∨ k = 2
    · exact .inr ⟨_, rfl, if_pos h12, if_pos h12, rfl⟩
    · refine .inl ?_
      have h3 : k = 3 := by
        rcases ha with ⟨g, _⟩ | ⟨g, _⟩ | ⟨g, _⟩ | ⟨g, _⟩
        · exact (h12 (.inl g)).elim
        · exact (h12 (.inr g)).elim
        · exact g
        · exact (h g).elim
      unfold itP tmN
      rw [if_pos (show (Pc.mk k vn names t c vi inner).kind = 3 from h3), if_pos (show (Pc.mk k vn names t c vi inner).kind = 3 from h3)]
theorem itP_more' {m : Int} {p : Pc} (ha : AloneP p) : itP 0 (moreP m p) = itP m p := by
  rcases itP_more (m := m) ha with h | ⟨q, _, h1, h2, h3⟩
  · exact h
  · rw [h1, h2, h3]
theorem axF_more {m : Int} : ∀ (l : List Pc) (x y : AxS × Int × Int), (∀ p ∈ l, AloneP p) → x.1 = y.1 → ((l.map (moreP m)).foldl (axP 0) x).1 = (l.foldl (axP m) y).1
  | [], x, y, _, h => h
  | p :: l, x, y, hl, h => by
    simp only [List.map_cons, List.foldl_cons]
    refine axF_more l _ _ (fun q hq => hl q (List.mem_cons_of_mem _ hq)) ?_
    unfold axP
    simp only
    rw [itP_more' (hl p (List.mem_cons_self ..)), h]
end Go.Proofs.YtjeblkicgmmhiaaGreatDoor.Ab
namespace Go.Proofs.YtjeblkicgmmhiaaGreatDoor.Ab
open Go
set_option linter.unusedSimpArgs false
set_option maxRecDepth 100000
set_option linter.unusedVariables false
set_option maxHeartbeats 8000000
theorem total_ok (v : DV) (t1 : Trk) (ts : List Trk) (fr to size gap : Int) (hall : ∀ t ∈ t1 :: ts, (brS t size).2 = 0) (hlen : (t1 :: ts).length ≤ 100000) (hg0 : 0 ≤ gap) (hg1 : gap ≤ 68719476736) :
    Pur F0 30 [.agg [.d v, .d (.sl 7 ((t1 :: ts).map trkRow)), I fr, I to], I size, I gap] [] .no (.ret (.tup [I (tlS size gap (t1 :: ts) false 0).1, B true])) .no := by
  generalize hR : tlS size gap (t1 :: ts) false 0 = R
  obtain ⟨ra, rb⟩ := R
  refine pur_code code30_ok ?_
  conv => whnf
  repeat' ((first | refine vb_t rfl ?_ | refine vb_f rfl ?_ | refine vb_t ‹_› ?_ | refine vb_f ‹_› ?_ | refine vor_l ?_ | fail) <;> conv => whnf)
  refine vloop_cnt (α := Int) (t1 :: ts).length (fun k s => tlS size gap ((t1 :: ts).drop k) (decide (0 < k)) s = (ra, rb) ∧ 0 ≤ s ∧ s ≤ 1374389534720) (fun k s => [(8, I s), (16, I (k : Int))]) 0 ⟨hR, by decide, by decide⟩ rfl ?_
  intro k s hk hI
  obtain ⟨hI, hs0, hs1⟩ := hI
  rcases Nat.lt_or_ge k (t1 :: ts).length with hlt | hge
  · obtain ⟨t, ht⟩ := get_in hlt
    have hg := iget_map (f := trkRow) ht
    have hl := lt_len (f := trkRow) hlt
    have hb := breadth_ok t size
    have he := hall t (List.mem_of_getElem? ht)
    have hhi := brS_hi t size
    have hnn := brS_nn t size
    have hd : (t1 :: ts).drop k = t :: (t1 :: ts).drop (k + 1) := by
      obtain ⟨h1, rfl⟩ := List.getElem?_eq_some_iff.1 ht
      exact List.drop_eq_getElem_cons h1
    rw [hd] at hI
    unfold tlS at hI
    rw [he] at hb hI
    generalize (brS t size).1 = b at *
    obtain ⟨a1, a2, a3, a4, a5, a6, a7⟩ := t
    have z : (!ieq (0 : Int) (Int.ofNat 0)) = false := by rw [Bool.not_eq_false', ieq_t]; rfl
    by_cases hbig : 1099511627776 < s
    · rw [if_pos (.inr hbig)] at hI
      simp only [decide_true, Prod.mk.injEq] at hI
      obtain ⟨rfl, rfl⟩ := hI
      have q : ilt (Int.ofNat 1099511627776) s = true := by rw [ilt_t]; exact hbig
      have f0 : ieq (0 : Int) (Int.ofNat 0) = true := by rw [ieq_t]; rfl
      conv => whnf
      repeat' ((first | refine vb_t rfl ?_ | refine vb_f rfl ?_ | refine vb_t ‹_› ?_ | refine vb_f ‹_› ?_ | refine vo_i hg ?_ | refine vpur_i hb ?_ | refine vor_l ?_ | fail) <;> conv => whnf)
      exact ⟨congrArg CR.ret (congrArg (fun x => AV.tup [I s, x]) (B_eqq f0)), rfl⟩
    · rw [if_neg (by rintro (h | h); exact h rfl; exact hbig h)] at hI
      have q : ilt (Int.ofNat 1099511627776) s = false := by rw [ilt_f]; exact Int.not_lt.1 hbig
      rcases k with _ | k
      · have q0 : ilt (Int.ofNat 0) ((0 : Nat) : Int) = false := by rw [ilt_f]; decide
        have e : iadd .i64 s b = s + b := iadd64 (by omega) (by omega)
        conv => whnf
        repeat' ((first | refine vb_t rfl ?_ | refine vb_f rfl ?_ | refine vb_t ‹_› ?_ | refine vb_f ‹_› ?_ | refine vo_i hg ?_ | refine vpur_i hb ?_ | refine vor_l ?_ | fail) <;> conv => whnf)
        exact ⟨⟨(1, s + b), (by omega), hI, by omega, by omega⟩, (by simp only; omega), (by repeat' (first | exact rfl | exact slot_eq (I_eq e) | exact slot_eq (I_eq (iadd_one (by omega))) | refine cons_eq ?_ ?_)), rfl, rfl, rfl⟩
      · have q0 : ilt (Int.ofNat 0) ((k + 1 : Nat) : Int) = true := by rw [ilt_t, lit0]; omega
        have e1 : iadd .i64 s gap = s + gap := iadd64 (by omega) (by omega)
        have e : iadd .i64 (iadd .i64 s gap) b = s + gap + b := by rw [e1, iadd64 (by omega) (by omega)]
        have hI2 : tlS size gap (List.drop (k + 1 + 1) (t1 :: ts)) (decide (0 < k + 1 + 1)) (s + gap + b) = (ra, rb) := by
          rw [decide_eq_true (show 0 < k + 1 + 1 by omega)]
          rw [decide_eq_true (show 0 < k + 1 by omega), if_pos rfl] at hI
          exact hI
        conv => whnf
        repeat' ((first | refine vb_t rfl ?_ | refine vb_f rfl ?_ | refine vb_t ‹_› ?_ | refine vb_f ‹_› ?_ | refine vo_i hg ?_ | refine vpur_i hb ?_ | refine vor_l ?_ | fail) <;> conv => whnf)
        exact ⟨⟨(k + 1 + 1, s + gap + b), (by omega), hI2, by omega, by omega⟩, (by simp only; omega), (by repeat' (first | exact rfl | exact slot_eq (I_eq e) | exact slot_eq (I_eq (iadd_one (by omega))) | refine cons_eq ?_ ?_)), rfl, rfl, rfl⟩
  · have hl := nlt_len (f := trkRow) (Nat.not_lt.2 hge)
    rw [List.drop_of_length_le hge] at hI
    simp only [tlS, Prod.mk.injEq] at hI
    obtain ⟨rfl, rfl⟩ := hI
    conv => whnf
    repeat' ((first | refine vb_t rfl ?_ | refine vb_f rfl ?_ | refine vb_t ‹_› ?_ | refine vb_f ‹_› ?_ | refine vor_l ?_ | fail) <;> conv => whnf)
    exact ⟨rfl, rfl⟩
end Go.Proofs.YtjeblkicgmmhiaaGreatDoor.Ab
namespace Go.Proofs.YtjeblkicgmmhiaaGreatDoor.Ab
open Go
set_option linter.unusedSimpArgs false
set_option linter.unusedVariables false
/-- Tracks among pieces. -/
def nI : List Pc → Int
  | [] => 0
  | q :: L => (if q.kind = 2 then 1 else 0) + nI L
theorem nI_cons {q : Pc} {L : List Pc} : nI (q :: L) = (if q.kind = 2 then 1 else 0) + nI L := rfl
theorem nI_append (a b : List Pc) : nI (a ++ b) = nI a + nI b := by
  induction a with
  | nil => simp [nI]
  | cons t a ih => simp only [List.cons_append, nI, ih]; omega
theorem nI_trs {L : List Pc} (h : ∀ q ∈ L, q.kind = 1 ∨ q.kind = 2) : ((trs L).length : Int) = nI L := by
  induction L with
  | nil => rfl
  | cons q L ih =>
    have hq := h q (List.mem_cons_self ..)
    have ih := ih fun p hp => h p (List.mem_cons_of_mem _ hp)
    rw [trs_cons, nI_cons]
    by_cases hk : q.kind = 1
    · rw [if_pos hk, if_neg (by omega), ih]; omega
    · rw [if_neg hk, if_pos (hq.resolve_left hk), List.length_cons]; omega
theorem nI_rep {L : List Pc} (m : Nat) : nI (repL m L) = m * nI L := by
  induction m with
  | zero => simp [repL, nI]
  | succ m ih =>
    show nI (repL m L ++ L) = _
    rw [nI_append, ih, Int.natCast_succ, Int.add_mul, Int.one_mul]
def cmV (m : Int) (C : Cs) : Int := C.m0 + m * C.m1
theorem cmV_map {size gap m : Int} {c : Int} : ∀ (L : List Pc) (C : Cs), cmV m ((L.map fun q => (q, c)).foldl (ctU size gap) C) = cmV m C + (if c = 0 then m else c) * nI L
  | [], C => by simp [nI]
  | q :: L, C => by
    simp only [List.map_cons, List.foldl_cons]
    rw [cmV_map L, nI_cons]
    unfold ctU cmV
    simp only
    by_cases hk : q.kind = 2
    · rw [if_pos hk, if_pos hk]
      by_cases hc : c = 0
      · rw [if_pos hc, if_pos hc]; simp only [Int.mul_add]; omega
      · rw [if_neg hc, if_neg hc]; simp only [Int.mul_add]; omega
    · rw [if_neg hk, if_neg hk]; simp
theorem cmV_item {size gap : Int} {m : Int} (hm : 0 ≤ m) {p : Pc} (ha : AloneP p) (C : Cs) : cmV m ((plI p).foldl (ctU size gap) C) = cmV m C + nI (itP m p) := by
  unfold plI itP
  by_cases h12 : p.kind = 1 ∨ p.kind = 2
  · rw [if_pos h12, if_pos h12]
    have := cmV_map (size := size) (gap := gap) (m := m) (c := 1) [p] C
    rw [if_neg (by decide), Int.one_mul] at this
    exact this
  · rw [if_neg h12, if_neg h12, cmV_map, nI_rep]
    congr 2
    unfold tmN
    rcases ha with ⟨h, _⟩ | ⟨h, _⟩ | ⟨h, h1, _⟩ | ⟨h, _, _, h1⟩
    · omega
    · omega
    · rw [if_neg (by omega), if_pos h]; omega
    · rw [if_pos h1, if_neg (by unfold AutoK at h; omega)]; omega
theorem axF_len {size gap : Int} {m : Int} (hm : 0 ≤ m) : ∀ (l : List Pc) (x : AxS × Int × Int) (C : Cs), (∀ p ∈ l, AloneP p ∧ ∀ q ∈ p.inner, q.kind = 1 ∨ q.kind = 2) → (x.1.ts.length : Int) = cmV m C →
    ((l.foldl (axP m) x).1.ts.length : Int) = cmV m ((plP l).foldl (ctU size gap) C)
  | [], x, C, _, h => h
  | p :: l, x, C, hl, h => by
    simp only [List.foldl_cons, plP, List.foldl_append]
    refine axF_len hm l _ _ (fun q hq => hl q (List.mem_cons_of_mem _ hq)) ?_
    obtain ⟨h1, h2⟩ := hl p (List.mem_cons_self ..)
    rw [cmV_item hm h1]
    unfold axP
    simp only
    rw [lay_trs, List.length_append, Int.natCast_add, h, nI_trs (itP_kinds h2)]
theorem mem_trs {L : List Pc} {t : Trk} (h : t ∈ trs L) : ∃ q ∈ L, q.kind ≠ 1 ∧ q.t = t := by
  induction L with
  | nil => cases h
  | cons q L ih =>
    rw [trs_cons] at h
    split at h
    · obtain ⟨r, hr, h2⟩ := ih h
      exact ⟨r, List.mem_cons_of_mem _ hr, h2⟩
    · rename_i hk
      rcases List.mem_cons.1 h with rfl | h
      · exact ⟨q, List.mem_cons_self .., hk, rfl⟩
      · obtain ⟨r, hr, h2⟩ := ih h
        exact ⟨r, List.mem_cons_of_mem _ hr, h2⟩
theorem axF_mem {m : Int} : ∀ (l : List Pc) (x : AxS × Int × Int) (t : Trk), (∀ p ∈ l, ∀ q ∈ p.inner, q.kind = 1 ∨ q.kind = 2) → t ∈ (l.foldl (axP m) x).1.ts → t ∈ x.1.ts ∨ ∃ y ∈ plP l, y.1.kind = 2 ∧ y.1.t = t
  | [], x, t, _, h => .inl h
  | p :: l, x, t, hl, h => by
    rcases axF_mem l _ t (fun q hq => hl q (List.mem_cons_of_mem _ hq)) h with h | ⟨y, hy, h2⟩
    · unfold axP at h
      simp only at h
      rw [lay_trs] at h
      rcases List.mem_append.1 h with h | h
      · exact .inl h
      · obtain ⟨q, hq, hk, rfl⟩ := mem_trs h
        have hk2 : q.kind = 2 := (itP_kinds (hl p (List.mem_cons_self ..)) q hq).resolve_left hk
        refine .inr ?_
        unfold itP at hq
        simp only [plP, List.mem_append]
        split at hq
        · rename_i h12
          obtain rfl := List.mem_singleton.1 hq
          exact ⟨(q, 1), .inl (by unfold plI; rw [if_pos h12]; exact List.mem_singleton.2 rfl), hk2, rfl⟩
        · rename_i h12
          exact ⟨(q, p.count), .inl (by unfold plI; rw [if_neg h12]; exact List.mem_map.2 ⟨q, repL_mem hq, rfl⟩), hk2, rfl⟩
    · exact .inr ⟨y, by simp only [plP]; exact List.mem_append_right _ hy, h2⟩
/-- What stands in a template's pieces: names and tracks. -/
theorem good_kinds {l : List Pc} (hG : GoodP l) : ∀ p ∈ l, AloneP p ∧ ∀ q ∈ p.inner, q.kind = 1 ∨ q.kind = 2 := by
  intro p hp
  rcases hG with rfl | ⟨h1, h2, _⟩
  · cases hp
  obtain ⟨i, hi⟩ := List.getElem?_of_mem hp
  have ha := (h1.1 i p hi).1
  refine ⟨ha, fun q hq => ?_⟩
  by_cases hk : RepK p.kind
  · obtain ⟨j, hj⟩ := List.getElem?_of_mem hq
    obtain ⟨g1, g2, _⟩ := (h2 p hp hk).1 j q hj
    rcases g1 with ⟨h, _⟩ | ⟨h, _⟩ | ⟨h, _⟩ | ⟨h, _⟩
    · exact .inl h
    · exact .inr h
    · exact (g2 ⟨rfl, .inl h⟩).elim
    · exact (g2 ⟨rfl, .inr h⟩).elim
  · rw [alone_inner ha hk] at hq; cases hq
/-- All tracks of an axis, with gaps, are what the reference's sums say. -/
theorem axis_sums {l : List Pc} {size gap : Int} (hG : GoodP l) (h2 : withinS gap = true) (he : fErr size (plP l) = 0) {m : Int} (m1 : 1 ≤ m) (m2 : m ≤ 10000) :
    (∀ t ∈ (axF m l).1.ts, (brS t size).2 = 0) ∧ gS size gap (axF m l).1.ts - gap = (totS m size gap l).1 ∧ ((axF m l).1.ts.length : Int) = (totS m size gap l).2.1 := by
  obtain ⟨C, e1, e2, e3, e4⟩ := sums_ok l size gap hG h2
  obtain ⟨t0, t1, t2⟩ := e4 m m1 m2 he
  obtain ⟨hal, hlen⟩ := good_alone hG
  obtain ⟨g0, g1⟩ := within_b h2
  have hk := good_kinds hG
  have hz : CsB 0 ⟨0, 0, 0, 0⟩ := by unfold CsB; simp
  have hl := plP_len hal
  have ht : ∀ x ∈ plP l, 0 ≤ x.2 ∧ x.2 ≤ 10000 := fun x hx => by
    obtain ⟨p, hp, hx⟩ := mem_plP.1 hx
    exact plI_times (hal p hp) x hx
  have hC : (plP l).foldl (ctU size gap) ⟨0, 0, 0, 0⟩ = C := by rw [← e1]; exact (ct_eq (size := size) g0 g1 (plP l) ⟨0, 0, 0, 0⟩ 0 (by omega) ht hz).1.symm
  have a1 := axF_gS (size := size) (gap := gap) (show 0 ≤ m by omega) l (ax0, 0, 0) ⟨0, 0, 0, 0⟩ hk (by simp [ax0, gS, csV])
  have a2 := axF_len (size := size) (gap := gap) (show 0 ≤ m by omega) l (ax0, 0, 0) ⟨0, 0, 0, 0⟩ hk (by simp [ax0, cmV])
  rw [hC] at a1 a2
  refine ⟨fun t h => ?_, ?_, ?_⟩
  · rcases axF_mem l (ax0, 0, 0) t (fun p hp => (hk p hp).2) h with h | ⟨y, hy, h1, rfl⟩
    · cases h
    · exact fErr_all he y hy h1
  · show gS size gap (l.foldl (axP m) (ax0, 0, 0)).1.ts - gap = _
    rw [a1, t2]; rfl
  · show ((l.foldl (axP m) (ax0, 0, 0)).1.ts.length : Int) = _
    rw [a2, t1]; rfl
end Go.Proofs.YtjeblkicgmmhiaaGreatDoor.Ab
namespace Go.Proofs.YtjeblkicgmmhiaaGreatDoor.Ab
open Go
set_option maxRecDepth 100000
theorem lives15_ok : Pur F0 20 [] [] .no (.ret (B true)) .no := pur_closed (n := 100) (by kernel_rfl)
end Go.Proofs.YtjeblkicgmmhiaaGreatDoor.Ab
namespace Go.Proofs.YtjeblkicgmmhiaaGreatDoor.Ab
open Go
set_option linter.unusedSimpArgs false
set_option maxRecDepth 100000
set_option linter.unusedVariables false
set_option maxHeartbeats 8000000
theorem axis_err (v : DV) (size gap : Int) (b : Bool) (n e : Int) (hC : Pur F0 22 [.d v, I size, B b, I gap] [] .no (.ret (.tup [I n, I e])) .no) (he : e ≠ 0) :
    Pur F0 24 [.d v, I size, B b, I gap] [] .no (.ret (.tup [.agg [.d .nilsl, .d .nilsl, I 0, I 0], I e])) .no := by
  have z : (!ieq e (Int.ofNat 0)) = true := by rw [Bool.not_eq_true', ieq_f]; exact he
  refine pur_code code24_ok ?_
  conv => whnf
  repeat' ((first | refine vb_t rfl ?_ | refine vb_f rfl ?_ | refine vb_t ‹_› ?_ | refine vb_f ‹_› ?_ | refine vpur_i hC ?_ | refine vor_l ?_ | fail) <;> conv => whnf)
  exact ⟨rfl, rfl⟩
end Go.Proofs.YtjeblkicgmmhiaaGreatDoor.Ab
namespace Go.Proofs.YtjeblkicgmmhiaaGreatDoor.Ab
open Go
set_option linter.unusedSimpArgs false
set_option maxRecDepth 100000
set_option linter.unusedVariables false
set_option maxHeartbeats 8000000
theorem axP_ne {n : Int} : ∀ (l : List Pc) (x : AxS × Int × Int), (x.1.ts ≠ [] ∨ ∃ p ∈ l, ∃ q ∈ itP n p, q.kind ≠ 1) → (l.foldl (axP n) x).1.ts ≠ []
  | [], x, h => by
    rcases h with h | ⟨p, hp, _⟩
    · exact h
    · cases hp
  | p :: l, x, h => by
    refine axP_ne l _ ?_
    rcases h with h | ⟨r, hr, hq⟩
    · exact .inl (lay_ne h)
    · rcases List.mem_cons.1 hr with rfl | hr
      · exact .inl (lay_track hq)
      · exact .inr ⟨r, hr, hq⟩
theorem repL_sub {m : Nat} {L : List Pc} (h : 1 ≤ m) {q : Pc} (hq : q ∈ L) : q ∈ repL m L := by
  cases m with
  | zero => omega
  | succ m => exact List.mem_append_right _ hq
/-- What the law's facts come to: the sums, before and with one time more. -/
structure FitQ (l : List Pc) (size gap n : Int) : Prop where
  ne : (axF n l).1.ts ≠ []
  fix : ∀ t ∈ (axF n l).1.ts, (brS t size).2 = 0
  sum : 1 < n → (tlS size gap (axF n l).1.ts false 0).1 ≤ size
  ne2 : n + 1 ≤ 10000 → (axF (n + 1) l).1.ts ≠ []
  fix2 : n + 1 ≤ 10000 → ∀ t ∈ (axF (n + 1) l).1.ts, (brS t size).2 = 0
  sum2 : n + 1 ≤ 10000 → (axF (n + 1) l).1.ts.length ≤ 10000 → size < (tlS size gap (axF (n + 1) l).1.ts false 0).1
theorem fitQ_ok (l : List Pc) (size gap n : Int) (hQ : CtQ l size gap true n 0) (hA : ∃ p ∈ l, AutoK p.kind) : FitQ l size gap n := by
  obtain ⟨hG, h1, h2, hn0, hn1⟩ := hQ.good rfl
  have hn := hQ.fill rfl hA
  obtain ⟨he, hR⟩ := hQ.room rfl rfl hA
  obtain ⟨s0, s1⟩ := within_b h1
  obtain ⟨g0, g1⟩ := within_b h2
  have hne : ∀ m : Int, 1 ≤ m → (axF m l).1.ts ≠ [] := fun m hm => by
    refine axP_ne l _ (.inr ?_)
    obtain ⟨p, hp, ha⟩ := hA
    rcases hG with rfl | ⟨g1, g2, _⟩
    · cases hp
    obtain ⟨j, q, hj, hk⟩ := (g2 p hp (.inr ha)).2.1
    refine ⟨p, hp, q, ?_, hk⟩
    unfold itP
    rw [if_neg (by unfold AutoK at ha; omega)]
    refine repL_sub ?_ (List.mem_of_getElem? hj)
    unfold tmN
    rw [if_neg (by unfold AutoK at ha; omega)]
    omega
  obtain ⟨a1, a2, a3⟩ := axis_sums hG h2 he hn hn1
  have b := fun h : n + 1 ≤ 10000 => axis_sums hG h2 he (show 1 ≤ n + 1 by omega) h
  refine ⟨hne n hn, a1, fun h => ?_, fun _ => hne _ (by omega), fun h => (b h).1, fun h hl => ?_⟩
  · obtain ⟨t1, t2, t3⟩ := tlS_all g0 _ (hne n hn) a1
    obtain ⟨m, hm⟩ : ∃ m : Nat, (m : Int) = n := ⟨n.toNat, by omega⟩
    have := (hR m (by omega) (by omega)).2 (by omega)
    unfold RoomP at this
    rw [hm] at this
    omega
  · obtain ⟨c1, c2, c3⟩ := b h
    obtain ⟨t1, t2, t3⟩ := tlS_all g0 _ (hne (n + 1) (by omega)) c1
    obtain ⟨m, hm⟩ : ∃ m : Nat, (m : Int) = n + 1 := ⟨(n + 1).toNat, by omega⟩
    have hno : ¬ RoomP l size gap (m : Int) := fun h => by
      have := (hR m (by omega) (by omega)).1 h
      omega
    unfold RoomP at hno
    rw [hm] at hno
    have : ¬ (totS (n + 1) size gap l).1 ≤ size := fun h => hno ⟨h, by omega⟩
    omega
theorem pcOk_more {m : Int} {p : Pc} (h : PcOk p) : PcOk (moreP m p) := by
  cases h with
  | mk hn hi h =>
    rw [more_eq]
    split
    · exact .mk hn hi h
    · exact .mk hn hi h
theorem sm_more {m : Int} {l : List Pc} (h : Sm2 l) : Sm2 (l.map (moreP m)) := by
  have hnm : ∀ p : Pc, (moreP m p).names = p.names := fun p => by
    cases p with
    | mk k vn names t c vi inner => rw [more_eq]; split <;> rfl
  obtain ⟨⟨h1, h2⟩, h3⟩ := h
  refine ⟨⟨by rw [List.length_map]; exact h1, fun p hp => ?_⟩, fun p hp => ?_⟩
  · obtain ⟨q, hq, rfl⟩ := List.mem_map.1 hp
    obtain ⟨a, b, c⟩ := h2 q hq
    exact ⟨pcOk_more a, by rw [hnm]; exact b, by rw [more_inner]; exact c⟩
  · obtain ⟨q, hq, rfl⟩ := List.mem_map.1 hp
    rw [more_inner]
    exact h3 q hq
/-- What the second axis is: an error, or one that has more than the room. -/
def AxV (v : AV) (size gap : Int) (n : Int) : Prop :=
  (∃ x e, v = .tup [x, I e] ∧ e ≠ 0 ∧ (e = 52 ∨ 10000 < n + 1) ∧ x = .agg [.d .nilsl, .d .nilsl, I 0, I 0]) ∨
  (∃ lv t1 ts fr to, v = .tup [.agg [.d (.sl 1 lv), .d (.sl 7 ((t1 :: ts).map trkRow)), I fr, I to], I 0] ∧ (∀ t ∈ t1 :: ts, (brS t size).2 = 0) ∧ (t1 :: ts).length ≤ 10000 ∧ size < (tlS size gap (t1 :: ts) false 0).1)
theorem axis_more (l : List Pc) (hs : Sm2 l) (hall : ∀ p ∈ l, PcOk p) (size gap n : Int) (hQ : CtQ l size gap true n 0) (hA : ∃ p ∈ l, AutoK p.kind) :
    ∃ v, Pur F0 24 [.d (.sl 11 ((l.map (moreP (n + 1))).map pcRow)), I size, B true, I gap] [] .no (.ret v) .no ∧ AxV v size gap n := by
  obtain ⟨hG, h1, h2, hn0, hn1⟩ := hQ.good rfl
  have hn := hQ.fill rfl hA
  have hF := fitQ_ok l size gap n hQ hA
  by_cases hm : n + 1 ≤ 10000
  · have hG2 := good_more (m := n + 1) (by omega) hm hG
    have hna : ¬ ∃ p ∈ l.map (moreP (n + 1)), AutoK p.kind := by
      rintro ⟨p, hp, ha⟩
      obtain ⟨q, hq, rfl⟩ := List.mem_map.1 hp
      exact more_auto ha
    have hC := count_na (l.map (moreP (n + 1))) (sm_more hs) size gap true hG2 h1 h2 hna
    have hX := axis_ok (l.map (moreP (n + 1))) size gap true 0 hC hG2 (fun p hp => by obtain ⟨q, hq, rfl⟩ := List.mem_map.1 hp; exact pcOk_more (hall q hq)) (by decide) (by decide)
    refine ⟨_, hX, ?_⟩
    have e : (axF 0 (l.map (moreP (n + 1)))).1 = (axF (n + 1) l).1 := axF_more l (ax0, 0, 0) (ax0, 0, 0) (good_alone hG).1 rfl
    have f1 := hF.ne2 hm
    have f2 := hF.fix2 hm
    have f3 := hF.sum2 hm
    rw [← e] at f1 f2 f3
    generalize axF 0 (l.map (moreP (n + 1))) = X at *
    obtain ⟨⟨ls, ts, gl, gt⟩, fr, to⟩ := X
    unfold axA
    by_cases hle : ts.length ≤ 10000
    · rw [if_pos hle]
      rcases ts with _ | ⟨t1, ts⟩
      · exact (f1 rfl).elim
      · exact .inr ⟨_, t1, ts, fr, to, rfl, f2, hle, f3 hle⟩
    · rw [if_neg hle]
      exact .inl ⟨_, 52, rfl, by decide, .inl rfl, rfl⟩
  · obtain ⟨n2, e2, hC, _, hQ2⟩ := counts_ok2 (l.map (moreP (n + 1))) (.sl 11 ((l.map (moreP (n + 1))).map pcRow)) (.inr rfl) (sm_more hs) size gap true
    have he2 : e2 ≠ 0 := by
      rintro rfl
      have hG2 := (hQ2.good rfl).1
      obtain ⟨p, hp, ha⟩ := hA
      have := (good_alone hG2).1 (moreP (n + 1) p) (List.mem_map.2 ⟨p, hp, rfl⟩)
      cases p with
      | mk k vn names t c vi inner =>
      rw [more_eq, if_pos (show AutoK k from ha)] at this
      rcases this with ⟨h, _⟩ | ⟨h, _⟩ | ⟨_, _, h, _⟩ | ⟨h, _⟩
      · exact absurd h (by show ¬ (3 : Int) = 1; decide)
      · exact absurd h (by show ¬ (3 : Int) = 2; decide)
      · exact hm h
      · exact absurd h (by show ¬ AutoK 3; decide)
    exact ⟨_, axis_err _ size gap true n2 e2 hC he2, .inl ⟨_, e2, rfl, he2, .inr (by omega), rfl⟩⟩
end Go.Proofs.YtjeblkicgmmhiaaGreatDoor.Ab

