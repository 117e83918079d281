/- Some texts as one, one behind the other; what is not leaned on is left out. -/
import Derived.Test.YtjeblkicgmmhiaaGreatDoorQ4
import Derived.Test.YtjeblkicgmmhiaaGreatDoorQ6
import Derived.Test.YtjeblkicgmmhiaaGreatDoorQ1
namespace Go.Proofs.YtjeblkicgmmhiaaGreatDoor.Ab
open Go
set_option linter.unusedSimpArgs false
set_option linter.unusedVariables false
/-- How often a piece's inner pieces are taken. -/
def tmN (n : Int) (p : Pc) : Nat := (if p.kind = 3 then p.count else n).toNat
def repL (m : Nat) (L : List Pc) : List Pc := match m with
  | 0 => []
  | m + 1 => repL m L ++ L
def itP (n : Int) (p : Pc) : List Pc := if p.kind = 1 ∨ p.kind = 2 then [p] else repL (tmN n p) p.inner
def ax0 : AxS := ⟨[[]], [], 0, 0⟩
/-- A piece of a template behind others: where it fits, its tracks' places too. -/
def axP (n : Int) (x : AxS × Int × Int) (p : Pc) : AxS × Int × Int :=
  ((itP n p).foldl layQ x.1, if p.kind = 5 then ((x.1.ts.length : Int), (((itP n p).foldl layQ x.1).ts.length : Int)) else x.2)
def axF (n : Int) (l : List Pc) : AxS × Int × Int := l.foldl (axP n) (ax0, 0, 0)
theorem repL_foldl {m : Nat} {L : List Pc} {s : AxS} : (repL (m + 1) L).foldl layQ s = L.foldl layQ ((repL m L).foldl layQ s) := by
  show (repL m L ++ L).foldl layQ s = _
  rw [List.foldl_append]
theorem repL_mem {m : Nat} {L : List Pc} {q : Pc} (h : q ∈ repL m L) : q ∈ L := by
  induction m with
  | zero => cases h
  | succ m ih =>
    rcases List.mem_append.1 h with h | h
    · exact ih h
    · exact h
theorem repL_len {m : Nat} {L : List Pc} : (repL m L).length = m * L.length := by
  induction m with
  | zero => simp [repL]
  | succ m ih => show (repL m L ++ L).length = _; rw [List.length_append, ih, Nat.succ_mul]
theorem layQ_mono {s : AxS} {q : Pc} : s.ts.length ≤ (layQ s q).ts.length := by
  unfold layQ
  split
  · exact Nat.le_refl _
  · simp
theorem lay_mono {L : List Pc} : ∀ {s : AxS}, s.ts.length ≤ (L.foldl layQ s).ts.length := by
  induction L with
  | nil => intro s; exact Nat.le_refl _
  | cons q L ih => intro s; exact Nat.le_trans layQ_mono ih
theorem rep_mono {a b : Nat} {L : List Pc} {s : AxS} (h : a ≤ b) : ((repL a L).foldl layQ s).ts.length ≤ ((repL b L).foldl layQ s).ts.length := by
  induction b with
  | zero => obtain rfl : a = 0 := by omega
            exact Nat.le_refl _
  | succ b ih =>
    rcases Nat.lt_or_ge a (b + 1) with h1 | h1
    · rw [repL_foldl]
      exact Nat.le_trans (ih (by omega)) lay_mono
    · obtain rfl : a = b + 1 := by omega
      exact Nat.le_refl _
theorem axP_mono {n : Int} {x : AxS × Int × Int} {p : Pc} : x.1.ts.length ≤ (axP n x p).1.ts.length := lay_mono
theorem axP_monoL {n : Int} : ∀ {l : List Pc} {x : AxS × Int × Int}, x.1.ts.length ≤ (l.foldl (axP n) x).1.ts.length
  | [], x => Nat.le_refl _
  | p :: l, x => Nat.le_trans (axP_mono (n := n) (p := p)) axP_monoL
theorem axF_take {n : Int} {l : List Pc} {k : Nat} : (axF n (l.take k)).1.ts.length ≤ (axF n l).1.ts.length := by
  have h : axF n l = (l.drop k).foldl (axP n) (axF n (l.take k)) := by
    unfold axF
    rw [← List.foldl_append, List.take_append_drop]
  rw [h]
  exact axP_monoL
theorem axF_succ {n : Int} {l : List Pc} {k : Nat} {p : Pc} (h : l[k]? = some p) : axF n (l.take (k + 1)) = axP n (axF n (l.take k)) p := foldl_succ h
/-- Some inner pieces that lay a track. -/
theorem lay_track {L : List Pc} {s : AxS} (h : ∃ q ∈ L, q.kind ≠ 1) : (L.foldl layQ s).ts ≠ [] := by
  induction L generalizing s with
  | nil => obtain ⟨q, hq, _⟩ := h; cases hq
  | cons p L ih =>
    obtain ⟨q, hq, hk⟩ := h
    rcases List.mem_cons.1 hq with rfl | hq
    · intro he
      have h1 : (layQ s q).ts.length ≤ (L.foldl layQ (layQ s q)).ts.length := lay_mono
      rw [List.foldl_cons] at he
      rw [he] at h1
      unfold layQ at h1
      rw [if_neg hk] at h1
      simp at h1
    · exact ih ⟨q, hq, hk⟩
theorem lay_ne {L : List Pc} {s : AxS} (h : s.ts ≠ []) : (L.foldl layQ s).ts ≠ [] := fun he => by
  have h1 := lay_mono (L := L) (s := s)
  rw [he] at h1
  exact h (List.length_eq_zero_iff.1 (Nat.le_zero.1 h1))
/-- What holds of a template's pieces: each may be laid. -/
theorem good_lay {l : List Pc} (hG : GoodP l) (hall : ∀ p ∈ l, PcOk p) : ∀ p ∈ l, LayP p ∧ (∀ q ∈ p.inner, LayP q) ∧ p.inner.length ≤ 256 ∧ (¬ (p.kind = 1 ∨ p.kind = 2) → RepK p.kind ∧ ∃ q ∈ p.inner, q.kind ≠ 1) := by
  intro p hp
  have hpo := hall p hp
  rcases hG with rfl | ⟨h1, h2, h3, _⟩
  · cases hp
  have hal : ∀ q, AloneP q → PcOk q → LayP q := fun q ha ho => ⟨ho, fun hk => by
    rcases ha with ⟨_, hn, _⟩ | ⟨h, _⟩ | ⟨h, _⟩ | ⟨h, _⟩
    · exact ⟨fun e => by have := hn.1; rw [e] at this; simp at this, hn.2.1⟩
    · omega
    · omega
    · unfold AutoK at h; omega⟩
  obtain ⟨i, hi⟩ := List.getElem?_of_mem hp
  have ha := (h1.1 i p hi).1
  have hr : ¬ (p.kind = 1 ∨ p.kind = 2) → RepK p.kind := fun hk => by
    rcases ha with ⟨h, _⟩ | ⟨h, _⟩ | ⟨h, _⟩ | ⟨h, _⟩
    · exact (hk (.inl h)).elim
    · exact (hk (.inr h)).elim
    · exact .inl h
    · exact .inr h
  have hin : ∀ q ∈ p.inner, PcOk q := by cases hpo with | mk hn hi h => exact h
  refine ⟨hal p ha hpo, fun q hq => ?_, ?_, fun hk => ⟨hr hk, ?_⟩⟩
  · by_cases hk : RepK p.kind
    · obtain ⟨j, hj⟩ := List.getElem?_of_mem hq
      exact hal q ((h2 p hp hk).1 j q hj).1 (hin q hq)
    · rw [alone_inner ha hk] at hq; cases hq
  · by_cases hk : RepK p.kind
    · exact (h2 p hp hk).2.2
    · rw [alone_inner ha hk]; simp
  · obtain ⟨j, q, hj, hk1⟩ := (h2 p hp (hr hk)).2.1
    exact ⟨q, List.mem_of_getElem? hj, hk1⟩
theorem count0 {p : Pc} (ha : AloneP p) (hk : p.kind = 1 ∨ p.kind = 2) : p.count = 0 := by
  rcases ha with ⟨_, _, _, _, h⟩ | ⟨_, _, _, _, h⟩ | ⟨h, _⟩ | ⟨h, _⟩
  · exact h
  · exact h
  · omega
  · unfold AutoK at h; omega
theorem tmN_le {n : Int} {p : Pc} (ha : AloneP p) (hn : n ≤ 10000) : tmN n p ≤ 10000 := by
  unfold tmN
  split
  · rename_i h3
    rcases ha with ⟨h, _⟩ | ⟨h, _⟩ | ⟨_, _, h, _⟩ | ⟨h, _⟩
    · omega
    · omega
    · omega
    · unfold AutoK at h; omega
  · omega
def axA (x : AxS × Int × Int) : AV := if x.1.ts.length ≤ 10000 then .tup [.agg [.d (.sl 1 (x.1.ls.map lnRow)), .d (tsW x.1.ts), I x.2.1, I x.2.2], I 0] else .tup [.agg [.d .nilsl, .d .nilsl, I 0, I 0], I 52]
end Go.Proofs.YtjeblkicgmmhiaaGreatDoor.Ab
namespace Go.Proofs.YtjeblkicgmmhiaaGreatDoor.Ab
open Go
set_option linter.unusedSimpArgs false
set_option maxRecDepth 100000
set_option linter.unusedVariables false
set_option maxHeartbeats 8000000
def rsO : Obj := axO (.d .nilsl) (.d .nilsl) 0 0
def pcO (p : Pc) : Obj := ⟨.mine, 69, .fix ((pcRow p).map .d)⟩
def oxH (fr to : Int) (s : AxS) : Heap := match s.ts with
  | [] => [rsO, axO (.osl 3 s.gl 0 s.ls.length) (.d .nilsl) fr to, flO false, lnO s.gl s.ls]
  | t :: r => [rsO, axO (.osl 3 s.gl 0 s.ls.length) (.osl 4 s.gt 0 (t :: r).length) fr to, flO (decide (10000 < (t :: r).length)), lnO s.gl s.ls, trO s.gt (t :: r)]
def ixH (fr to : Int) (p : Pc) (s : AxS) : Heap := match s.ts with
  | [] => [rsO, axO (.osl 4 s.gl 0 s.ls.length) (.d .nilsl) fr to, flO false, pcO p, lnO s.gl s.ls]
  | t :: r => [rsO, axO (.osl 4 s.gl 0 s.ls.length) (.osl 5 s.gt 0 (t :: r).length) fr to, flO (decide (10000 < (t :: r).length)), pcO p, lnO s.gl s.ls, trO s.gt (t :: r)]
/-- How an axis stands ahead of a piece: as all ahead of it say; or there are too many tracks. -/
def AxI (n : Int) (l : List Pc) (k : Nat) (x : AxS × Int × Int) : Prop :=
  AxB (2560000 * k) x.1 ∧ ((x = axF n (l.take k) ∧ x.1.ts.length ≤ 10000) ∨ (10000 < x.1.ts.length ∧ 10000 < (axF n (l.take k)).1.ts.length))
theorem axB_mono {c c' : Nat} {s : AxS} (h : c ≤ c') (hB : AxB c s) : AxB c' s := ⟨hB.1, by have := hB.2.1; omega, fun x hx => by have := hB.2.2 x hx; omega⟩
theorem axI_next {n : Int} {l : List Pc} {k : Nat} {p : Pc} {x x' : AxS × Int × Int} (hp : l[k]? = some p) (hI : AxI n l k x) (hB : AxB (2560000 * (k + 1)) x'.1) (hx : x' = axP n x p) : AxI n l (k + 1) x' := by
  refine ⟨hB, ?_⟩
  have hS := axF_succ (n := n) hp
  rcases hI.2 with ⟨h1, h2⟩ | ⟨h1, h2⟩
  · rw [hS, ← h1, ← hx]
    rcases Nat.lt_or_ge 10000 x'.1.ts.length with h | h
    · exact .inr ⟨h, h⟩
    · exact .inl ⟨rfl, h⟩
  · refine .inr ⟨?_, ?_⟩
    · rw [hx]; exact Nat.lt_of_lt_of_le h1 axP_mono
    · rw [hS]; exact Nat.lt_of_lt_of_le h2 axP_mono
theorem axis_ok (l : List Pc) (size gap : Int) (b : Bool) (n : Int) (hC : Pur F0 22 [.d (.sl 11 (l.map pcRow)), I size, B b, I gap] [] .no (.ret (.tup [I n, I 0])) .no)
    (hG : GoodP l) (hall : ∀ p ∈ l, PcOk p) (hn0 : 0 ≤ n) (hn1 : n ≤ 10000) :
    Pur F0 24 [.d (.sl 11 (l.map pcRow)), I size, B b, I gap] [] .no (.ret (axA (axF n l))) .no := by
  obtain ⟨hal, hlen⟩ := good_alone hG
  have hgl := good_lay hG hall
  have z : (!ieq (0 : Int) (Int.ofNat 0)) = false := by rw [Bool.not_eq_false', ieq_t]; rfl
  refine pur_code code24_ok ?_
  conv => whnf
  repeat' ((first | refine vb_t rfl ?_ | refine vb_f rfl ?_ | refine vb_t ‹_› ?_ | refine vb_f ‹_› ?_ | refine vpur_i hC ?_ | refine vor_l ?_ | fail) <;> conv => whnf)
  refine vloop_cnh (α := AxS × Int × Int) l.length (AxI n l) (fun k _ => [(36, I (k : Int))]) (fun _ x => oxH x.2.1 x.2.2 x.1) (ax0, 0, 0) ⟨⟨rfl, Nat.zero_le _, fun x hx => by rw [List.mem_singleton.1 hx]; simp⟩, .inl ⟨rfl, Nat.zero_le _⟩⟩ rfl rfl ?_
  rintro k ⟨s, fr, to⟩ hk hI
  rcases Nat.lt_or_ge k l.length with hlt | hge
  · obtain ⟨p, hp⟩ := get_in hlt
    have hg := iget_map (f := pcRow) hp
    have hl := lt_len (f := pcRow) hlt
    have hm := List.mem_of_getElem? hp
    obtain ⟨hLp, hLi, hil, hRk⟩ := hgl p hm
    have hap := hal p hm
    have hS := axF_succ (n := n) hp
    obtain ⟨hB, hI⟩ := hI
    simp only at hB hI
    have hPo := hLp.1
    have hcut : icut (l.map pcRow) (k : Int) (iadd .i64 (k : Int) (Int.ofNat 1)) = some [pcRow p] := by
      have e1 : iadd .i64 (k : Int) (Int.ofNat 1) = ((k + 1 : Nat) : Int) := by rw [iadd64 (by rw [o1']; omega) (by rw [o1']; omega), o1']; omega
      rw [e1, icut_t (by omega) (by omega) (by rw [List.length_map]; omega)]
      congr 1
      rw [Int.toNat_natCast, Int.toNat_natCast, List.take_add_one, List.getElem?_map, hp]
      rw [List.drop_append_of_le_length (by rw [List.length_take, List.length_map]; omega), List.drop_of_length_le (by rw [List.length_take]; omega)]
      rfl
    by_cases hk12 : p.kind = 1 ∨ p.kind = 2
    · have hlay := lay_ok [p] (fun q hq => by rw [List.mem_singleton.1 hq]; exact hLp) s (2560000 * k) hB (by simp only [List.length_cons, List.length_nil]; omega) fr to
      have hc0 := count0 hap hk12
      have hit : itP n p = [p] := if_pos hk12
      have hx : axP n (s, fr, to) p = ([p].foldl layQ s, fr, to) := by
        unfold axP
        rw [hit, if_neg (by omega)]
      have hB' := axB_fold (L := [p]) (fun q hq => by rw [List.mem_singleton.1 hq]; exact hLp) hB
      have hN := axI_next (x' := ([p].foldl layQ s, fr, to)) hp ⟨hB, hI⟩ (axB_mono (by simp only [List.length_cons, List.length_nil]; omega) hB') hx.symm
      have hne : s.ts ≠ [] → ([p].foldl layQ s).ts ≠ [] := lay_ne
      generalize [p].foldl layQ s = s' at *
      cases hPo with
      | @mk kd vn names t cn vi inner hvn hvi hin =>
      simp only [Pc.kind, Pc.count] at hk12 hc0
      subst hc0
      have q5 : ieq kd (Int.ofNat 5) = false := by
        rw [ieq_f]
        clear hRk hgl hLp hLi
        rcases hk12 with h | h <;> rw [h] <;> decide
      have h00 : ilt (Int.ofNat 0) (0 : Int) = false := by rw [ilt_f]; decide
      by_cases hk1 : kd = 1
      · have q1 : ieq kd (Int.ofNat 1) = true := by rw [ieq_t]; exact hk1
        rcases s with ⟨ls, _ | ⟨t1, ts⟩, gl, gt⟩
        · rcases s' with ⟨ls', _ | ⟨t1', ts'⟩, gl', gt'⟩
          · conv => whnf
            repeat' ((first | refine vb_t rfl ?_ | refine vb_f rfl ?_ | refine vb_t ‹_› ?_ | refine vb_f ‹_› ?_ | refine vo_i hg ?_ | refine vo_i hcut ?_ | refine vcall_i hlay ?_ | refine vor_l ?_ | fail) <;> conv => whnf)
            refine vloop_once ?_
            conv => whnf
            repeat' ((first | refine vb_t rfl ?_ | refine vb_f rfl ?_ | refine vb_t ‹_› ?_ | refine vb_f ‹_› ?_ | refine vor_l ?_ | fail) <;> conv => whnf)
            exact ⟨⟨(k + 1, (_, fr, to)), (by omega), hN⟩, (by simp only; omega), (by repeat' (first | exact rfl | exact slot_eq (I_eq (iadd_one (by omega))) | (refine cons_eq ?_ ?_) | assumption)), rfl, rfl, rfl⟩
          · conv => whnf
            repeat' ((first | refine vb_t rfl ?_ | refine vb_f rfl ?_ | refine vb_t ‹_› ?_ | refine vb_f ‹_› ?_ | refine vo_i hg ?_ | refine vo_i hcut ?_ | refine vcall_i hlay ?_ | refine vor_l ?_ | fail) <;> conv => whnf)
            refine vloop_once ?_
            conv => whnf
            repeat' ((first | refine vb_t rfl ?_ | refine vb_f rfl ?_ | refine vb_t ‹_› ?_ | refine vb_f ‹_› ?_ | refine vor_l ?_ | fail) <;> conv => whnf)
            exact ⟨⟨(k + 1, (_, fr, to)), (by omega), hN⟩, (by simp only; omega), (by repeat' (first | exact rfl | exact slot_eq (I_eq (iadd_one (by omega))) | (refine cons_eq ?_ ?_) | assumption)), rfl, rfl, rfl⟩
        · rcases s' with ⟨ls', _ | ⟨t1', ts'⟩, gl', gt'⟩
          · exact (hne (by simp) rfl).elim
          · conv => whnf
            repeat' ((first | refine vb_t rfl ?_ | refine vb_f rfl ?_ | refine vb_t ‹_› ?_ | refine vb_f ‹_› ?_ | refine vo_i hg ?_ | refine vo_i hcut ?_ | refine vcall_i hlay ?_ | refine vor_l ?_ | fail) <;> conv => whnf)
            refine vloop_once ?_
            conv => whnf
            repeat' ((first | refine vb_t rfl ?_ | refine vb_f rfl ?_ | refine vb_t ‹_› ?_ | refine vb_f ‹_› ?_ | refine vor_l ?_ | fail) <;> conv => whnf)
            exact ⟨⟨(k + 1, (_, fr, to)), (by omega), hN⟩, (by simp only; omega), (by repeat' (first | exact rfl | exact slot_eq (I_eq (iadd_one (by omega))) | (refine cons_eq ?_ ?_) | assumption)), rfl, rfl, rfl⟩
      · have q1 : ieq kd (Int.ofNat 1) = false := by rw [ieq_f]; exact hk1
        have q2 : ieq kd (Int.ofNat 2) = true := by rw [ieq_t]; exact hk12.resolve_left hk1
        rcases s with ⟨ls, _ | ⟨t1, ts⟩, gl, gt⟩
        · rcases s' with ⟨ls', _ | ⟨t1', ts'⟩, gl', gt'⟩
          · conv => whnf
            repeat' ((first | refine vb_t rfl ?_ | refine vb_f rfl ?_ | refine vb_t ‹_› ?_ | refine vb_f ‹_› ?_ | refine vo_i hg ?_ | refine vo_i hcut ?_ | refine vcall_i hlay ?_ | refine vor_l ?_ | fail) <;> conv => whnf)
            refine vloop_once ?_
            conv => whnf
            repeat' ((first | refine vb_t rfl ?_ | refine vb_f rfl ?_ | refine vb_t ‹_› ?_ | refine vb_f ‹_› ?_ | refine vor_l ?_ | fail) <;> conv => whnf)
            exact ⟨⟨(k + 1, (_, fr, to)), (by omega), hN⟩, (by simp only; omega), (by repeat' (first | exact rfl | exact slot_eq (I_eq (iadd_one (by omega))) | (refine cons_eq ?_ ?_) | assumption)), rfl, rfl, rfl⟩
          · conv => whnf
            repeat' ((first | refine vb_t rfl ?_ | refine vb_f rfl ?_ | refine vb_t ‹_› ?_ | refine vb_f ‹_› ?_ | refine vo_i hg ?_ | refine vo_i hcut ?_ | refine vcall_i hlay ?_ | refine vor_l ?_ | fail) <;> conv => whnf)
            refine vloop_once ?_
            conv => whnf
            repeat' ((first | refine vb_t rfl ?_ | refine vb_f rfl ?_ | refine vb_t ‹_› ?_ | refine vb_f ‹_› ?_ | refine vor_l ?_ | fail) <;> conv => whnf)
            exact ⟨⟨(k + 1, (_, fr, to)), (by omega), hN⟩, (by simp only; omega), (by repeat' (first | exact rfl | exact slot_eq (I_eq (iadd_one (by omega))) | (refine cons_eq ?_ ?_) | assumption)), rfl, rfl, rfl⟩
        · rcases s' with ⟨ls', _ | ⟨t1', ts'⟩, gl', gt'⟩
          · exact (hne (by simp) rfl).elim
          · conv => whnf
            repeat' ((first | refine vb_t rfl ?_ | refine vb_f rfl ?_ | refine vb_t ‹_› ?_ | refine vb_f ‹_› ?_ | refine vo_i hg ?_ | refine vo_i hcut ?_ | refine vcall_i hlay ?_ | refine vor_l ?_ | fail) <;> conv => whnf)
            refine vloop_once ?_
            conv => whnf
            repeat' ((first | refine vb_t rfl ?_ | refine vb_f rfl ?_ | refine vb_t ‹_› ?_ | refine vb_f ‹_› ?_ | refine vor_l ?_ | fail) <;> conv => whnf)
            exact ⟨⟨(k + 1, (_, fr, to)), (by omega), hN⟩, (by simp only; omega), (by repeat' (first | exact rfl | exact slot_eq (I_eq (iadd_one (by omega))) | (refine cons_eq ?_ ?_) | assumption)), rfl, rfl, rfl⟩
    · obtain ⟨hRep, hTr⟩ := hRk hk12
      have hit : itP n p = repL (tmN n p) p.inner := if_neg hk12
      have hx : axP n (s, fr, to) p = ((repL (tmN n p) p.inner).foldl layQ s, if p.kind = 5 then ((s.ts.length : Int), (((repL (tmN n p) p.inner).foldl layQ s).ts.length : Int)) else (fr, to)) := by
        unfold axP
        rw [hit]
      have htm := tmN_le hap hn1
      have hfl := efills_ok p.kind
      have hlim : ∀ j : Nat, j < tmN n p → 10000 < (p.inner.foldl layQ ((repL j p.inner).foldl layQ s)).ts.length → axA (axF n l) = .tup [.agg [.d .nilsl, .d .nilsl, I 0, I 0], I 52] := fun j hj h => by
        unfold axA
        rw [if_neg]
        refine Nat.not_le.2 ?_
        rcases hI with ⟨h1, _⟩ | ⟨_, h2⟩
        · refine Nat.lt_of_lt_of_le ?_ (axF_take (n := n) (l := l) (k := k + 1))
          rw [hS, ← h1, hx]
          rw [← repL_foldl] at h
          exact Nat.lt_of_lt_of_le h (rep_mono hj)
        · exact Nat.lt_of_lt_of_le h2 axF_take
      have hlay := fun (j : Nat) (s' : AxS) (hb : AxB (2560000 * k + j * 256) s') (hj : j ≤ 10000) => lay_ok p.inner hLi s' (2560000 * k + j * 256) hb (by omega) fr to
      have hbnd := fun (j : Nat) (hj : j ≤ 10000) => axB_mono (c' := 2560000 * k + j * 256) (by rw [repL_len]; have := Nat.mul_le_mul_left j hil; omega) (axB_fold (L := repL j p.inner) (fun q hq => hLi q (repL_mem hq)) hB)
      have hN0 : ∀ x' : AxS × Int × Int, x' = axP n (s, fr, to) p → AxB (2560000 * (k + 1)) x'.1 → AxI n l (k + 1) x' := fun x' h1 h2 => axI_next hp ⟨hB, hI⟩ h2 h1
      have hN5 : p.kind = 5 → ∀ s' : AxS, s' = (repL (tmN n p) p.inner).foldl layQ s → AxI n l (k + 1) (s', (s.ts.length : Int), (s'.ts.length : Int)) := fun h5 s' h => hN0 _ (by rw [hx, if_pos h5, h]) (by rw [h]; exact axB_mono (by omega) (hbnd (tmN n p) htm))
      have hNn : p.kind ≠ 5 → ∀ s' : AxS, s' = (repL (tmN n p) p.inner).foldl layQ s → AxI n l (k + 1) (s', fr, to) := fun h5 s' h => hN0 _ (by rw [hx, if_neg h5, h]) (by rw [h]; exact axB_mono (by omega) (hbnd (tmN n p) htm))
      have hne : s.ts ≠ [] → ∀ j, ((repL j p.inner).foldl layQ s).ts ≠ [] := fun h j => lay_ne h
      have htr : ∀ s' : AxS, (p.inner.foldl layQ s').ts ≠ [] := fun s' => lay_track hTr
      have hnin : p.inner ≠ [] := fun h => by obtain ⟨q, hq, _⟩ := hTr; rw [h] at hq; cases hq
      have ht3 : p.kind = 3 → (tmN n p : Int) = p.count := fun h => by
        unfold tmN
        rw [if_pos h]
        rcases hap with ⟨h1, _⟩ | ⟨h1, _⟩ | ⟨_, h1, _⟩ | ⟨h1, _⟩
        · omega
        · omega
        · omega
        · unfold AutoK at h1; omega
      have htn : p.kind ≠ 3 → (tmN n p : Int) = n := fun h => by unfold tmN; rw [if_neg h]; omega
      clear hN0 hRk hgl hLp hx hit hcut hTr hLi hS hap
      generalize tmN n p = m at *
      cases hPo with
      | @mk kd vn names t cn vi inner hvn hvi hin =>
      generalize hKD : (Pc.mk kd vn names t cn vi inner).kind = KD at *
      generalize hIN : (Pc.mk kd vn names t cn vi inner).inner = IN at *
      generalize hCN : (Pc.mk kd vn names t cn vi inner).count = CN at *
      obtain rfl : kd = KD := hKD
      obtain rfl : inner = IN := hIN
      obtain rfl : cn = CN := hCN
      rcases hvi with ⟨rfl, hvi⟩ | rfl
      · exact (hnin (List.map_eq_nil_iff.1 hvi)).elim
      have q1 : ieq kd (Int.ofNat 1) = false := by rw [ieq_f]; exact fun e => hk12 (.inl e)
      have q2 : ieq kd (Int.ofNat 2) = false := by rw [ieq_f]; exact fun e => hk12 (.inr e)
      by_cases h3 : kd = 3
      · rw [pb_f (p := AutoK kd) (by rw [h3]; decide)] at hfl
        have q5 : ieq kd (Int.ofNat 5) = false := by rw [ieq_f, h3]; decide
        have hm := ht3 h3
        have hNx := hNn (by rw [h3]; decide)
        rcases s with ⟨ls, _ | ⟨t1, ts⟩, gl, gt⟩
        · conv => whnf
          repeat' ((first | refine vb_t rfl ?_ | refine vb_f rfl ?_ | refine vb_t ‹_› ?_ | refine vb_f ‹_› ?_ | refine vo_i hg ?_ | refine vpur_i hfl ?_ | refine vor_l ?_ | fail) <;> conv => whnf)
          refine vloop_cnh (α := Unit) m (fun j _ => 0 < j → ((repL j inner).foldl layQ (⟨ls, [], gl, gt⟩ : AxS)).ts.length ≤ 10000) (fun j _ => [(68, I (j : Int))]) (fun j _ => ixH fr to (.mk kd vn names t cn (.sl 11 (inner.map pcRow)) inner) ((repL j inner).foldl layQ (⟨ls, [], gl, gt⟩ : AxS))) () (fun h => by omega) rfl rfl ?_
          intro j _ hj hJ
          have hsj : (repL (j + 1) inner).foldl layQ (⟨ls, [], gl, gt⟩ : AxS) = inner.foldl layQ ((repL j inner).foldl layQ (⟨ls, [], gl, gt⟩ : AxS)) := repL_foldl
          have hbj := hbnd j (by omega)
          have hnej := fun h => hne h j
          have hNj := fun h : j = m => hNx ((repL j inner).foldl layQ (⟨ls, [], gl, gt⟩ : AxS)) (by rw [h])
          have hlj := hlay j _ hbj (by omega)
          have hlm := hlim j
          have htj := htr ((repL j inner).foldl layQ (⟨ls, [], gl, gt⟩ : AxS))
          have htgt : ∀ s', (repL j inner).foldl layQ (⟨ls, [], gl, gt⟩ : AxS) = s' → m = j → (repL m inner).foldl layQ (⟨ls, [], gl, gt⟩ : AxS) = s' := fun s' h1 h2 => by rw [h2]; exact h1
          rcases Nat.lt_or_ge j m with hjm | hjm
          · have wl : ilt (j : Int) cn = true := by rw [ilt_t, ← hm]; omega
            have hlm := hlm hjm
            clear hlay hlim hbnd hne htr hNj htgt hNx hN5 hNn hbj
            by_cases hfull : 10000 < (inner.foldl layQ ((repL j inner).foldl layQ (⟨ls, [], gl, gt⟩ : AxS))).ts.length
            · rw [hlm hfull]
              clear hsj hlm
              generalize inner.foldl layQ ((repL j inner).foldl layQ (⟨ls, [], gl, gt⟩ : AxS)) = s2 at *
              generalize (repL j inner).foldl layQ (⟨ls, [], gl, gt⟩ : AxS) = s1 at *
              rcases s2 with ⟨ls2, _ | ⟨t2, ts2⟩, gl2, gt2⟩
              · exact (htj rfl).elim
              have wd : decide (10000 < (t2 :: ts2).length) = true := decide_eq_true hfull
              rcases s1 with ⟨ls1, _ | ⟨t3, ts1⟩, gl1, gt1⟩
              · conv => whnf
                repeat' ((first | refine vb_t rfl ?_ | refine vb_f rfl ?_ | refine vb_t ‹_› ?_ | refine vb_f ‹_› ?_ | refine vcall_i hlj ?_ | refine vor_l ?_ | fail) <;> conv => whnf)
                exact ⟨rfl, rfl⟩
              · conv => whnf
                repeat' ((first | refine vb_t rfl ?_ | refine vb_f rfl ?_ | refine vb_t ‹_› ?_ | refine vb_f ‹_› ?_ | refine vcall_i hlj ?_ | refine vor_l ?_ | fail) <;> conv => whnf)
                exact ⟨rfl, rfl⟩
            · have hJ2 : 0 < j + 1 → ((repL (j + 1) inner).foldl layQ (⟨ls, [], gl, gt⟩ : AxS)).ts.length ≤ 10000 := fun _ => by rw [hsj]; exact Nat.not_lt.1 hfull
              clear hlm hJ
              generalize inner.foldl layQ ((repL j inner).foldl layQ (⟨ls, [], gl, gt⟩ : AxS)) = s2 at *
              generalize (repL j inner).foldl layQ (⟨ls, [], gl, gt⟩ : AxS) = s1 at *
              rcases s2 with ⟨ls2, _ | ⟨t2, ts2⟩, gl2, gt2⟩
              · exact (htj rfl).elim
              have wd : decide (10000 < (t2 :: ts2).length) = false := decide_eq_false hfull
              rcases s1 with ⟨ls1, _ | ⟨t3, ts1⟩, gl1, gt1⟩
              · conv => whnf
                repeat' ((first | refine vb_t rfl ?_ | refine vb_f rfl ?_ | refine vb_t ‹_› ?_ | refine vb_f ‹_› ?_ | refine vcall_i hlj ?_ | refine vor_l ?_ | fail) <;> conv => whnf)
                exact ⟨⟨(j + 1, ()), (by omega), hJ2⟩, (by simp only; omega), (by repeat' (first | exact rfl | exact slot_eq (I_eq (iadd_one (by omega))) | (refine cons_eq ?_ ?_) | assumption)), congrArg (ixH fr to (.mk kd vn names t cn (.sl 11 (inner.map pcRow)) inner)) hsj.symm, rfl, rfl⟩
              · conv => whnf
                repeat' ((first | refine vb_t rfl ?_ | refine vb_f rfl ?_ | refine vb_t ‹_› ?_ | refine vb_f ‹_› ?_ | refine vcall_i hlj ?_ | refine vor_l ?_ | fail) <;> conv => whnf)
                exact ⟨⟨(j + 1, ()), (by omega), hJ2⟩, (by simp only; omega), (by repeat' (first | exact rfl | exact slot_eq (I_eq (iadd_one (by omega))) | (refine cons_eq ?_ ?_) | assumption)), congrArg (ixH fr to (.mk kd vn names t cn (.sl 11 (inner.map pcRow)) inner)) hsj.symm, rfl, rfl⟩
          · obtain rfl : j = m := by omega
            have wl : ilt (j : Int) cn = false := by rw [ilt_f, ← hm]; omega
            have hNj := hNj rfl
            clear hlay hlim hbnd hne htr htgt hNx hN5 hNn hsj hlj hlm htj hJ
            generalize (repL j inner).foldl layQ (⟨ls, [], gl, gt⟩ : AxS) = s1 at *
            rcases s1 with ⟨ls1, _ | ⟨t3, ts1⟩, gl1, gt1⟩
            · conv => whnf
              repeat' ((first | refine vb_t rfl ?_ | refine vb_f rfl ?_ | refine vb_t ‹_› ?_ | refine vb_f ‹_› ?_ | refine vor_l ?_ | fail) <;> conv => whnf)
              exact ⟨⟨(k + 1, (_, fr, to)), (by omega), hNj⟩, (by simp only; omega), (by repeat' (first | exact rfl | exact slot_eq (I_eq (iadd_one (by omega))) | (refine cons_eq ?_ ?_) | assumption)), rfl, rfl, rfl⟩
            · conv => whnf
              repeat' ((first | refine vb_t rfl ?_ | refine vb_f rfl ?_ | refine vb_t ‹_› ?_ | refine vb_f ‹_› ?_ | refine vor_l ?_ | fail) <;> conv => whnf)
              exact ⟨⟨(k + 1, (_, fr, to)), (by omega), hNj⟩, (by simp only; omega), (by repeat' (first | exact rfl | exact slot_eq (I_eq (iadd_one (by omega))) | (refine cons_eq ?_ ?_) | assumption)), rfl, rfl, rfl⟩
        · conv => whnf
          repeat' ((first | refine vb_t rfl ?_ | refine vb_f rfl ?_ | refine vb_t ‹_› ?_ | refine vb_f ‹_› ?_ | refine vo_i hg ?_ | refine vpur_i hfl ?_ | refine vor_l ?_ | fail) <;> conv => whnf)
          refine vloop_cnh (α := Unit) m (fun j _ => 0 < j → ((repL j inner).foldl layQ (⟨ls, t1 :: ts, gl, gt⟩ : AxS)).ts.length ≤ 10000) (fun j _ => [(68, I (j : Int))]) (fun j _ => ixH fr to (.mk kd vn names t cn (.sl 11 (inner.map pcRow)) inner) ((repL j inner).foldl layQ (⟨ls, t1 :: ts, gl, gt⟩ : AxS))) () (fun h => by omega) rfl rfl ?_
          intro j _ hj hJ
          have hsj : (repL (j + 1) inner).foldl layQ (⟨ls, t1 :: ts, gl, gt⟩ : AxS) = inner.foldl layQ ((repL j inner).foldl layQ (⟨ls, t1 :: ts, gl, gt⟩ : AxS)) := repL_foldl
          have hbj := hbnd j (by omega)
          have hnej := fun h => hne h j
          have hNj := fun h : j = m => hNx ((repL j inner).foldl layQ (⟨ls, t1 :: ts, gl, gt⟩ : AxS)) (by rw [h])
          have hlj := hlay j _ hbj (by omega)
          have hlm := hlim j
          have htj := htr ((repL j inner).foldl layQ (⟨ls, t1 :: ts, gl, gt⟩ : AxS))
          have htgt : ∀ s', (repL j inner).foldl layQ (⟨ls, t1 :: ts, gl, gt⟩ : AxS) = s' → m = j → (repL m inner).foldl layQ (⟨ls, t1 :: ts, gl, gt⟩ : AxS) = s' := fun s' h1 h2 => by rw [h2]; exact h1
          rcases Nat.lt_or_ge j m with hjm | hjm
          · have wl : ilt (j : Int) cn = true := by rw [ilt_t, ← hm]; omega
            have hlm := hlm hjm
            clear hlay hlim hbnd hne htr hNj htgt hNx hN5 hNn hbj
            by_cases hfull : 10000 < (inner.foldl layQ ((repL j inner).foldl layQ (⟨ls, t1 :: ts, gl, gt⟩ : AxS))).ts.length
            · rw [hlm hfull]
              clear hsj hlm
              generalize inner.foldl layQ ((repL j inner).foldl layQ (⟨ls, t1 :: ts, gl, gt⟩ : AxS)) = s2 at *
              generalize (repL j inner).foldl layQ (⟨ls, t1 :: ts, gl, gt⟩ : AxS) = s1 at *
              rcases s2 with ⟨ls2, _ | ⟨t2, ts2⟩, gl2, gt2⟩
              · exact (htj rfl).elim
              have wd : decide (10000 < (t2 :: ts2).length) = true := decide_eq_true hfull
              rcases s1 with ⟨ls1, _ | ⟨t3, ts1⟩, gl1, gt1⟩
              · conv => whnf
                repeat' ((first | refine vb_t rfl ?_ | refine vb_f rfl ?_ | refine vb_t ‹_› ?_ | refine vb_f ‹_› ?_ | refine vcall_i hlj ?_ | refine vor_l ?_ | fail) <;> conv => whnf)
                exact ⟨rfl, rfl⟩
              · conv => whnf
                repeat' ((first | refine vb_t rfl ?_ | refine vb_f rfl ?_ | refine vb_t ‹_› ?_ | refine vb_f ‹_› ?_ | refine vcall_i hlj ?_ | refine vor_l ?_ | fail) <;> conv => whnf)
                exact ⟨rfl, rfl⟩
            · have hJ2 : 0 < j + 1 → ((repL (j + 1) inner).foldl layQ (⟨ls, t1 :: ts, gl, gt⟩ : AxS)).ts.length ≤ 10000 := fun _ => by rw [hsj]; exact Nat.not_lt.1 hfull
              clear hlm hJ
              generalize inner.foldl layQ ((repL j inner).foldl layQ (⟨ls, t1 :: ts, gl, gt⟩ : AxS)) = s2 at *
              generalize (repL j inner).foldl layQ (⟨ls, t1 :: ts, gl, gt⟩ : AxS) = s1 at *
              rcases s2 with ⟨ls2, _ | ⟨t2, ts2⟩, gl2, gt2⟩
              · exact (htj rfl).elim
              have wd : decide (10000 < (t2 :: ts2).length) = false := decide_eq_false hfull
              rcases s1 with ⟨ls1, _ | ⟨t3, ts1⟩, gl1, gt1⟩
              · conv => whnf
                repeat' ((first | refine vb_t rfl ?_ | refine vb_f rfl ?_ | refine vb_t ‹_› ?_ | refine vb_f ‹_› ?_ | refine vcall_i hlj ?_ | refine vor_l ?_ | fail) <;> conv => whnf)
                exact ⟨⟨(j + 1, ()), (by omega), hJ2⟩, (by simp only; omega), (by repeat' (first | exact rfl | exact slot_eq (I_eq (iadd_one (by omega))) | (refine cons_eq ?_ ?_) | assumption)), congrArg (ixH fr to (.mk kd vn names t cn (.sl 11 (inner.map pcRow)) inner)) hsj.symm, rfl, rfl⟩
              · conv => whnf
                repeat' ((first | refine vb_t rfl ?_ | refine vb_f rfl ?_ | refine vb_t ‹_› ?_ | refine vb_f ‹_› ?_ | refine vcall_i hlj ?_ | refine vor_l ?_ | fail) <;> conv => whnf)
                exact ⟨⟨(j + 1, ()), (by omega), hJ2⟩, (by simp only; omega), (by repeat' (first | exact rfl | exact slot_eq (I_eq (iadd_one (by omega))) | (refine cons_eq ?_ ?_) | assumption)), congrArg (ixH fr to (.mk kd vn names t cn (.sl 11 (inner.map pcRow)) inner)) hsj.symm, rfl, rfl⟩
          · obtain rfl : j = m := by omega
            have wl : ilt (j : Int) cn = false := by rw [ilt_f, ← hm]; omega
            have hNj := hNj rfl
            clear hlay hlim hbnd hne htr htgt hNx hN5 hNn hsj hlj hlm htj hJ
            generalize (repL j inner).foldl layQ (⟨ls, t1 :: ts, gl, gt⟩ : AxS) = s1 at *
            rcases s1 with ⟨ls1, _ | ⟨t3, ts1⟩, gl1, gt1⟩
            · conv => whnf
              repeat' ((first | refine vb_t rfl ?_ | refine vb_f rfl ?_ | refine vb_t ‹_› ?_ | refine vb_f ‹_› ?_ | refine vor_l ?_ | fail) <;> conv => whnf)
              exact ⟨⟨(k + 1, (_, fr, to)), (by omega), hNj⟩, (by simp only; omega), (by repeat' (first | exact rfl | exact slot_eq (I_eq (iadd_one (by omega))) | (refine cons_eq ?_ ?_) | assumption)), rfl, rfl, rfl⟩
            · conv => whnf
              repeat' ((first | refine vb_t rfl ?_ | refine vb_f rfl ?_ | refine vb_t ‹_› ?_ | refine vb_f ‹_› ?_ | refine vor_l ?_ | fail) <;> conv => whnf)
              exact ⟨⟨(k + 1, (_, fr, to)), (by omega), hNj⟩, (by simp only; omega), (by repeat' (first | exact rfl | exact slot_eq (I_eq (iadd_one (by omega))) | (refine cons_eq ?_ ?_) | assumption)), rfl, rfl, rfl⟩
      · have hA : AutoK kd := hRep.resolve_left h3
        rw [pb_t hA] at hfl
        have hm := htn h3
        by_cases h5 : kd = 5
        · have q5 : ieq kd (Int.ofNat 5) = true := by rw [ieq_t]; exact h5
          have hNx := hN5 h5
          rcases s with ⟨ls, _ | ⟨t1, ts⟩, gl, gt⟩
          · conv => whnf
            repeat' ((first | refine vb_t rfl ?_ | refine vb_f rfl ?_ | refine vb_t ‹_› ?_ | refine vb_f ‹_› ?_ | refine vo_i hg ?_ | refine vpur_i hfl ?_ | refine vor_l ?_ | fail) <;> conv => whnf)
            refine vloop_cnh (α := Unit) m (fun j _ => 0 < j → ((repL j inner).foldl layQ (⟨ls, [], gl, gt⟩ : AxS)).ts.length ≤ 10000) (fun j _ => [(68, I (j : Int))]) (fun j _ => ixH fr to (.mk kd vn names t cn (.sl 11 (inner.map pcRow)) inner) ((repL j inner).foldl layQ (⟨ls, [], gl, gt⟩ : AxS))) () (fun h => by omega) rfl rfl ?_
            intro j _ hj hJ
            have hsj : (repL (j + 1) inner).foldl layQ (⟨ls, [], gl, gt⟩ : AxS) = inner.foldl layQ ((repL j inner).foldl layQ (⟨ls, [], gl, gt⟩ : AxS)) := repL_foldl
            have hbj := hbnd j (by omega)
            have hnej := fun h => hne h j
            have hNj := fun h : j = m => hNx ((repL j inner).foldl layQ (⟨ls, [], gl, gt⟩ : AxS)) (by rw [h])
            have hlj := hlay j _ hbj (by omega)
            have hlm := hlim j
            have htj := htr ((repL j inner).foldl layQ (⟨ls, [], gl, gt⟩ : AxS))
            have htgt : ∀ s', (repL j inner).foldl layQ (⟨ls, [], gl, gt⟩ : AxS) = s' → m = j → (repL m inner).foldl layQ (⟨ls, [], gl, gt⟩ : AxS) = s' := fun s' h1 h2 => by rw [h2]; exact h1
            rcases Nat.lt_or_ge j m with hjm | hjm
            · have wl : ilt (j : Int) n = true := by rw [ilt_t, ← hm]; omega
              have hlm := hlm hjm
              clear hlay hlim hbnd hne htr hNj htgt hNx hN5 hNn hbj
              by_cases hfull : 10000 < (inner.foldl layQ ((repL j inner).foldl layQ (⟨ls, [], gl, gt⟩ : AxS))).ts.length
              · rw [hlm hfull]
                clear hsj hlm
                generalize inner.foldl layQ ((repL j inner).foldl layQ (⟨ls, [], gl, gt⟩ : AxS)) = s2 at *
                generalize (repL j inner).foldl layQ (⟨ls, [], gl, gt⟩ : AxS) = s1 at *
                rcases s2 with ⟨ls2, _ | ⟨t2, ts2⟩, gl2, gt2⟩
                · exact (htj rfl).elim
                have wd : decide (10000 < (t2 :: ts2).length) = true := decide_eq_true hfull
                rcases s1 with ⟨ls1, _ | ⟨t3, ts1⟩, gl1, gt1⟩
                · conv => whnf
                  repeat' ((first | refine vb_t rfl ?_ | refine vb_f rfl ?_ | refine vb_t ‹_› ?_ | refine vb_f ‹_› ?_ | refine vcall_i hlj ?_ | refine vor_l ?_ | fail) <;> conv => whnf)
                  exact ⟨rfl, rfl⟩
                · conv => whnf
                  repeat' ((first | refine vb_t rfl ?_ | refine vb_f rfl ?_ | refine vb_t ‹_› ?_ | refine vb_f ‹_› ?_ | refine vcall_i hlj ?_ | refine vor_l ?_ | fail) <;> conv => whnf)
                  exact ⟨rfl, rfl⟩
              · have hJ2 : 0 < j + 1 → ((repL (j + 1) inner).foldl layQ (⟨ls, [], gl, gt⟩ : AxS)).ts.length ≤ 10000 := fun _ => by rw [hsj]; exact Nat.not_lt.1 hfull
                clear hlm hJ
                generalize inner.foldl layQ ((repL j inner).foldl layQ (⟨ls, [], gl, gt⟩ : AxS)) = s2 at *
                generalize (repL j inner).foldl layQ (⟨ls, [], gl, gt⟩ : AxS) = s1 at *
                rcases s2 with ⟨ls2, _ | ⟨t2, ts2⟩, gl2, gt2⟩
                · exact (htj rfl).elim
                have wd : decide (10000 < (t2 :: ts2).length) = false := decide_eq_false hfull
                rcases s1 with ⟨ls1, _ | ⟨t3, ts1⟩, gl1, gt1⟩
                · conv => whnf
                  repeat' ((first | refine vb_t rfl ?_ | refine vb_f rfl ?_ | refine vb_t ‹_› ?_ | refine vb_f ‹_› ?_ | refine vcall_i hlj ?_ | refine vor_l ?_ | fail) <;> conv => whnf)
                  exact ⟨⟨(j + 1, ()), (by omega), hJ2⟩, (by simp only; omega), (by repeat' (first | exact rfl | exact slot_eq (I_eq (iadd_one (by omega))) | (refine cons_eq ?_ ?_) | assumption)), congrArg (ixH fr to (.mk kd vn names t cn (.sl 11 (inner.map pcRow)) inner)) hsj.symm, rfl, rfl⟩
                · conv => whnf
                  repeat' ((first | refine vb_t rfl ?_ | refine vb_f rfl ?_ | refine vb_t ‹_› ?_ | refine vb_f ‹_› ?_ | refine vcall_i hlj ?_ | refine vor_l ?_ | fail) <;> conv => whnf)
                  exact ⟨⟨(j + 1, ()), (by omega), hJ2⟩, (by simp only; omega), (by repeat' (first | exact rfl | exact slot_eq (I_eq (iadd_one (by omega))) | (refine cons_eq ?_ ?_) | assumption)), congrArg (ixH fr to (.mk kd vn names t cn (.sl 11 (inner.map pcRow)) inner)) hsj.symm, rfl, rfl⟩
            · obtain rfl : j = m := by omega
              have wl : ilt (j : Int) n = false := by rw [ilt_f, ← hm]; omega
              have hNj := hNj rfl
              clear hlay hlim hbnd hne htr htgt hNx hN5 hNn hsj hlj hlm htj hJ
              generalize (repL j inner).foldl layQ (⟨ls, [], gl, gt⟩ : AxS) = s1 at *
              rcases s1 with ⟨ls1, _ | ⟨t3, ts1⟩, gl1, gt1⟩
              · conv => whnf
                repeat' ((first | refine vb_t rfl ?_ | refine vb_f rfl ?_ | refine vb_t ‹_› ?_ | refine vb_f ‹_› ?_ | refine vor_l ?_ | fail) <;> conv => whnf)
                exact ⟨⟨(k + 1, (_, (((⟨ls, [], gl, gt⟩ : AxS)).ts.length : Int), _)), (by omega), hNj⟩, (by simp only; omega), (by repeat' (first | exact rfl | exact slot_eq (I_eq (iadd_one (by omega))) | (refine cons_eq ?_ ?_) | assumption)), cons_eq rfl (cons_eq (fix_eq (cons_eq rfl (cons_eq rfl (cons_eq (I_eq (by simp)) (cons_eq (I_eq (by simp)) rfl))))) rfl), rfl, rfl⟩
              · conv => whnf
                repeat' ((first | refine vb_t rfl ?_ | refine vb_f rfl ?_ | refine vb_t ‹_› ?_ | refine vb_f ‹_› ?_ | refine vor_l ?_ | fail) <;> conv => whnf)
                exact ⟨⟨(k + 1, (_, (((⟨ls, [], gl, gt⟩ : AxS)).ts.length : Int), _)), (by omega), hNj⟩, (by simp only; omega), (by repeat' (first | exact rfl | exact slot_eq (I_eq (iadd_one (by omega))) | (refine cons_eq ?_ ?_) | assumption)), cons_eq rfl (cons_eq (fix_eq (cons_eq rfl (cons_eq rfl (cons_eq (I_eq (by simp)) (cons_eq (I_eq (by simp)) rfl))))) rfl), rfl, rfl⟩
          · conv => whnf
            repeat' ((first | refine vb_t rfl ?_ | refine vb_f rfl ?_ | refine vb_t ‹_› ?_ | refine vb_f ‹_› ?_ | refine vo_i hg ?_ | refine vpur_i hfl ?_ | refine vor_l ?_ | fail) <;> conv => whnf)
            refine vloop_cnh (α := Unit) m (fun j _ => 0 < j → ((repL j inner).foldl layQ (⟨ls, t1 :: ts, gl, gt⟩ : AxS)).ts.length ≤ 10000) (fun j _ => [(68, I (j : Int))]) (fun j _ => ixH fr to (.mk kd vn names t cn (.sl 11 (inner.map pcRow)) inner) ((repL j inner).foldl layQ (⟨ls, t1 :: ts, gl, gt⟩ : AxS))) () (fun h => by omega) rfl rfl ?_
            intro j _ hj hJ
            have hsj : (repL (j + 1) inner).foldl layQ (⟨ls, t1 :: ts, gl, gt⟩ : AxS) = inner.foldl layQ ((repL j inner).foldl layQ (⟨ls, t1 :: ts, gl, gt⟩ : AxS)) := repL_foldl
            have hbj := hbnd j (by omega)
            have hnej := fun h => hne h j
            have hNj := fun h : j = m => hNx ((repL j inner).foldl layQ (⟨ls, t1 :: ts, gl, gt⟩ : AxS)) (by rw [h])
            have hlj := hlay j _ hbj (by omega)
            have hlm := hlim j
            have htj := htr ((repL j inner).foldl layQ (⟨ls, t1 :: ts, gl, gt⟩ : AxS))
            have htgt : ∀ s', (repL j inner).foldl layQ (⟨ls, t1 :: ts, gl, gt⟩ : AxS) = s' → m = j → (repL m inner).foldl layQ (⟨ls, t1 :: ts, gl, gt⟩ : AxS) = s' := fun s' h1 h2 => by rw [h2]; exact h1
            rcases Nat.lt_or_ge j m with hjm | hjm
            · have wl : ilt (j : Int) n = true := by rw [ilt_t, ← hm]; omega
              have hlm := hlm hjm
              clear hlay hlim hbnd hne htr hNj htgt hNx hN5 hNn hbj
              by_cases hfull : 10000 < (inner.foldl layQ ((repL j inner).foldl layQ (⟨ls, t1 :: ts, gl, gt⟩ : AxS))).ts.length
              · rw [hlm hfull]
                clear hsj hlm
                generalize inner.foldl layQ ((repL j inner).foldl layQ (⟨ls, t1 :: ts, gl, gt⟩ : AxS)) = s2 at *
                generalize (repL j inner).foldl layQ (⟨ls, t1 :: ts, gl, gt⟩ : AxS) = s1 at *
                rcases s2 with ⟨ls2, _ | ⟨t2, ts2⟩, gl2, gt2⟩
                · exact (htj rfl).elim
                have wd : decide (10000 < (t2 :: ts2).length) = true := decide_eq_true hfull
                rcases s1 with ⟨ls1, _ | ⟨t3, ts1⟩, gl1, gt1⟩
                · conv => whnf
                  repeat' ((first | refine vb_t rfl ?_ | refine vb_f rfl ?_ | refine vb_t ‹_› ?_ | refine vb_f ‹_› ?_ | refine vcall_i hlj ?_ | refine vor_l ?_ | fail) <;> conv => whnf)
                  exact ⟨rfl, rfl⟩
                · conv => whnf
                  repeat' ((first | refine vb_t rfl ?_ | refine vb_f rfl ?_ | refine vb_t ‹_› ?_ | refine vb_f ‹_› ?_ | refine vcall_i hlj ?_ | refine vor_l ?_ | fail) <;> conv => whnf)
                  exact ⟨rfl, rfl⟩
              · have hJ2 : 0 < j + 1 → ((repL (j + 1) inner).foldl layQ (⟨ls, t1 :: ts, gl, gt⟩ : AxS)).ts.length ≤ 10000 := fun _ => by rw [hsj]; exact Nat.not_lt.1 hfull
                clear hlm hJ
                generalize inner.foldl layQ ((repL j inner).foldl layQ (⟨ls, t1 :: ts, gl, gt⟩ : AxS)) = s2 at *
                generalize (repL j inner).foldl layQ (⟨ls, t1 :: ts, gl, gt⟩ : AxS) = s1 at *
                rcases s2 with ⟨ls2, _ | ⟨t2, ts2⟩, gl2, gt2⟩
                · exact (htj rfl).elim
                have wd : decide (10000 < (t2 :: ts2).length) = false := decide_eq_false hfull
                rcases s1 with ⟨ls1, _ | ⟨t3, ts1⟩, gl1, gt1⟩
                · conv => whnf
                  repeat' ((first | refine vb_t rfl ?_ | refine vb_f rfl ?_ | refine vb_t ‹_› ?_ | refine vb_f ‹_› ?_ | refine vcall_i hlj ?_ | refine vor_l ?_ | fail) <;> conv => whnf)
                  exact ⟨⟨(j + 1, ()), (by omega), hJ2⟩, (by simp only; omega), (by repeat' (first | exact rfl | exact slot_eq (I_eq (iadd_one (by omega))) | (refine cons_eq ?_ ?_) | assumption)), congrArg (ixH fr to (.mk kd vn names t cn (.sl 11 (inner.map pcRow)) inner)) hsj.symm, rfl, rfl⟩
                · conv => whnf
                  repeat' ((first | refine vb_t rfl ?_ | refine vb_f rfl ?_ | refine vb_t ‹_› ?_ | refine vb_f ‹_› ?_ | refine vcall_i hlj ?_ | refine vor_l ?_ | fail) <;> conv => whnf)
                  exact ⟨⟨(j + 1, ()), (by omega), hJ2⟩, (by simp only; omega), (by repeat' (first | exact rfl | exact slot_eq (I_eq (iadd_one (by omega))) | (refine cons_eq ?_ ?_) | assumption)), congrArg (ixH fr to (.mk kd vn names t cn (.sl 11 (inner.map pcRow)) inner)) hsj.symm, rfl, rfl⟩
            · obtain rfl : j = m := by omega
              have wl : ilt (j : Int) n = false := by rw [ilt_f, ← hm]; omega
              have hNj := hNj rfl
              clear hlay hlim hbnd hne htr htgt hNx hN5 hNn hsj hlj hlm htj hJ
              generalize (repL j inner).foldl layQ (⟨ls, t1 :: ts, gl, gt⟩ : AxS) = s1 at *
              rcases s1 with ⟨ls1, _ | ⟨t3, ts1⟩, gl1, gt1⟩
              · conv => whnf
                repeat' ((first | refine vb_t rfl ?_ | refine vb_f rfl ?_ | refine vb_t ‹_› ?_ | refine vb_f ‹_› ?_ | refine vor_l ?_ | fail) <;> conv => whnf)
                exact ⟨⟨(k + 1, (_, (((⟨ls, t1 :: ts, gl, gt⟩ : AxS)).ts.length : Int), _)), (by omega), hNj⟩, (by simp only; omega), (by repeat' (first | exact rfl | exact slot_eq (I_eq (iadd_one (by omega))) | (refine cons_eq ?_ ?_) | assumption)), cons_eq rfl (cons_eq (fix_eq (cons_eq rfl (cons_eq rfl (cons_eq (I_eq (by simp)) (cons_eq (I_eq (by simp)) rfl))))) rfl), rfl, rfl⟩
              · conv => whnf
                repeat' ((first | refine vb_t rfl ?_ | refine vb_f rfl ?_ | refine vb_t ‹_› ?_ | refine vb_f ‹_› ?_ | refine vor_l ?_ | fail) <;> conv => whnf)
                exact ⟨⟨(k + 1, (_, (((⟨ls, t1 :: ts, gl, gt⟩ : AxS)).ts.length : Int), _)), (by omega), hNj⟩, (by simp only; omega), (by repeat' (first | exact rfl | exact slot_eq (I_eq (iadd_one (by omega))) | (refine cons_eq ?_ ?_) | assumption)), cons_eq rfl (cons_eq (fix_eq (cons_eq rfl (cons_eq rfl (cons_eq (I_eq (by simp)) (cons_eq (I_eq (by simp)) rfl))))) rfl), rfl, rfl⟩
        · have q5 : ieq kd (Int.ofNat 5) = false := by rw [ieq_f]; exact h5
          have hNx := hNn h5
          rcases s with ⟨ls, _ | ⟨t1, ts⟩, gl, gt⟩
          · conv => whnf
            repeat' ((first | refine vb_t rfl ?_ | refine vb_f rfl ?_ | refine vb_t ‹_› ?_ | refine vb_f ‹_› ?_ | refine vo_i hg ?_ | refine vpur_i hfl ?_ | refine vor_l ?_ | fail) <;> conv => whnf)
            refine vloop_cnh (α := Unit) m (fun j _ => 0 < j → ((repL j inner).foldl layQ (⟨ls, [], gl, gt⟩ : AxS)).ts.length ≤ 10000) (fun j _ => [(68, I (j : Int))]) (fun j _ => ixH fr to (.mk kd vn names t cn (.sl 11 (inner.map pcRow)) inner) ((repL j inner).foldl layQ (⟨ls, [], gl, gt⟩ : AxS))) () (fun h => by omega) rfl rfl ?_
            intro j _ hj hJ
            have hsj : (repL (j + 1) inner).foldl layQ (⟨ls, [], gl, gt⟩ : AxS) = inner.foldl layQ ((repL j inner).foldl layQ (⟨ls, [], gl, gt⟩ : AxS)) := repL_foldl
            have hbj := hbnd j (by omega)
            have hnej := fun h => hne h j
            have hNj := fun h : j = m => hNx ((repL j inner).foldl layQ (⟨ls, [], gl, gt⟩ : AxS)) (by rw [h])
            have hlj := hlay j _ hbj (by omega)
            have hlm := hlim j
            have htj := htr ((repL j inner).foldl layQ (⟨ls, [], gl, gt⟩ : AxS))
            have htgt : ∀ s', (repL j inner).foldl layQ (⟨ls, [], gl, gt⟩ : AxS) = s' → m = j → (repL m inner).foldl layQ (⟨ls, [], gl, gt⟩ : AxS) = s' := fun s' h1 h2 => by rw [h2]; exact h1
            rcases Nat.lt_or_ge j m with hjm | hjm
            · have wl : ilt (j : Int) n = true := by rw [ilt_t, ← hm]; omega
              have hlm := hlm hjm
              clear hlay hlim hbnd hne htr hNj htgt hNx hN5 hNn hbj
              by_cases hfull : 10000 < (inner.foldl layQ ((repL j inner).foldl layQ (⟨ls, [], gl, gt⟩ : AxS))).ts.length
              · rw [hlm hfull]
                clear hsj hlm
                generalize inner.foldl layQ ((repL j inner).foldl layQ (⟨ls, [], gl, gt⟩ : AxS)) = s2 at *
                generalize (repL j inner).foldl layQ (⟨ls, [], gl, gt⟩ : AxS) = s1 at *
                rcases s2 with ⟨ls2, _ | ⟨t2, ts2⟩, gl2, gt2⟩
                · exact (htj rfl).elim
                have wd : decide (10000 < (t2 :: ts2).length) = true := decide_eq_true hfull
                rcases s1 with ⟨ls1, _ | ⟨t3, ts1⟩, gl1, gt1⟩
                · conv => whnf
                  repeat' ((first | refine vb_t rfl ?_ | refine vb_f rfl ?_ | refine vb_t ‹_› ?_ | refine vb_f ‹_› ?_ | refine vcall_i hlj ?_ | refine vor_l ?_ | fail) <;> conv => whnf)
                  exact ⟨rfl, rfl⟩
                · conv => whnf
                  repeat' ((first | refine vb_t rfl ?_ | refine vb_f rfl ?_ | refine vb_t ‹_› ?_ | refine vb_f ‹_› ?_ | refine vcall_i hlj ?_ | refine vor_l ?_ | fail) <;> conv => whnf)
                  exact ⟨rfl, rfl⟩
              · have hJ2 : 0 < j + 1 → ((repL (j + 1) inner).foldl layQ (⟨ls, [], gl, gt⟩ : AxS)).ts.length ≤ 10000 := fun _ => by rw [hsj]; exact Nat.not_lt.1 hfull
                clear hlm hJ
                generalize inner.foldl layQ ((repL j inner).foldl layQ (⟨ls, [], gl, gt⟩ : AxS)) = s2 at *
                generalize (repL j inner).foldl layQ (⟨ls, [], gl, gt⟩ : AxS) = s1 at *
                rcases s2 with ⟨ls2, _ | ⟨t2, ts2⟩, gl2, gt2⟩
                · exact (htj rfl).elim
                have wd : decide (10000 < (t2 :: ts2).length) = false := decide_eq_false hfull
                rcases s1 with ⟨ls1, _ | ⟨t3, ts1⟩, gl1, gt1⟩
                · conv => whnf
                  repeat' ((first | refine vb_t rfl ?_ | refine vb_f rfl ?_ | refine vb_t ‹_› ?_ | refine vb_f ‹_› ?_ | refine vcall_i hlj ?_ | refine vor_l ?_ | fail) <;> conv => whnf)
                  exact ⟨⟨(j + 1, ()), (by omega), hJ2⟩, (by simp only; omega), (by repeat' (first | exact rfl | exact slot_eq (I_eq (iadd_one (by omega))) | (refine cons_eq ?_ ?_) | assumption)), congrArg (ixH fr to (.mk kd vn names t cn (.sl 11 (inner.map pcRow)) inner)) hsj.symm, rfl, rfl⟩
                · conv => whnf
                  repeat' ((first | refine vb_t rfl ?_ | refine vb_f rfl ?_ | refine vb_t ‹_› ?_ | refine vb_f ‹_› ?_ | refine vcall_i hlj ?_ | refine vor_l ?_ | fail) <;> conv => whnf)
                  exact ⟨⟨(j + 1, ()), (by omega), hJ2⟩, (by simp only; omega), (by repeat' (first | exact rfl | exact slot_eq (I_eq (iadd_one (by omega))) | (refine cons_eq ?_ ?_) | assumption)), congrArg (ixH fr to (.mk kd vn names t cn (.sl 11 (inner.map pcRow)) inner)) hsj.symm, rfl, rfl⟩
            · obtain rfl : j = m := by omega
              have wl : ilt (j : Int) n = false := by rw [ilt_f, ← hm]; omega
              have hNj := hNj rfl
              clear hlay hlim hbnd hne htr htgt hNx hN5 hNn hsj hlj hlm htj hJ
              generalize (repL j inner).foldl layQ (⟨ls, [], gl, gt⟩ : AxS) = s1 at *
              rcases s1 with ⟨ls1, _ | ⟨t3, ts1⟩, gl1, gt1⟩
              · conv => whnf
                repeat' ((first | refine vb_t rfl ?_ | refine vb_f rfl ?_ | refine vb_t ‹_› ?_ | refine vb_f ‹_› ?_ | refine vor_l ?_ | fail) <;> conv => whnf)
                exact ⟨⟨(k + 1, (_, fr, to)), (by omega), hNj⟩, (by simp only; omega), (by repeat' (first | exact rfl | exact slot_eq (I_eq (iadd_one (by omega))) | (refine cons_eq ?_ ?_) | assumption)), rfl, rfl, rfl⟩
              · conv => whnf
                repeat' ((first | refine vb_t rfl ?_ | refine vb_f rfl ?_ | refine vb_t ‹_› ?_ | refine vb_f ‹_› ?_ | refine vor_l ?_ | fail) <;> conv => whnf)
                exact ⟨⟨(k + 1, (_, fr, to)), (by omega), hNj⟩, (by simp only; omega), (by repeat' (first | exact rfl | exact slot_eq (I_eq (iadd_one (by omega))) | (refine cons_eq ?_ ?_) | assumption)), rfl, rfl, rfl⟩
          · conv => whnf
            repeat' ((first | refine vb_t rfl ?_ | refine vb_f rfl ?_ | refine vb_t ‹_› ?_ | refine vb_f ‹_› ?_ | refine vo_i hg ?_ | refine vpur_i hfl ?_ | refine vor_l ?_ | fail) <;> conv => whnf)
            refine vloop_cnh (α := Unit) m (fun j _ => 0 < j → ((repL j inner).foldl layQ (⟨ls, t1 :: ts, gl, gt⟩ : AxS)).ts.length ≤ 10000) (fun j _ => [(68, I (j : Int))]) (fun j _ => ixH fr to (.mk kd vn names t cn (.sl 11 (inner.map pcRow)) inner) ((repL j inner).foldl layQ (⟨ls, t1 :: ts, gl, gt⟩ : AxS))) () (fun h => by omega) rfl rfl ?_
            intro j _ hj hJ
            have hsj : (repL (j + 1) inner).foldl layQ (⟨ls, t1 :: ts, gl, gt⟩ : AxS) = inner.foldl layQ ((repL j inner).foldl layQ (⟨ls, t1 :: ts, gl, gt⟩ : AxS)) := repL_foldl
            have hbj := hbnd j (by omega)
            have hnej := fun h => hne h j
            have hNj := fun h : j = m => hNx ((repL j inner).foldl layQ (⟨ls, t1 :: ts, gl, gt⟩ : AxS)) (by rw [h])
            have hlj := hlay j _ hbj (by omega)
            have hlm := hlim j
            have htj := htr ((repL j inner).foldl layQ (⟨ls, t1 :: ts, gl, gt⟩ : AxS))
            have htgt : ∀ s', (repL j inner).foldl layQ (⟨ls, t1 :: ts, gl, gt⟩ : AxS) = s' → m = j → (repL m inner).foldl layQ (⟨ls, t1 :: ts, gl, gt⟩ : AxS) = s' := fun s' h1 h2 => by rw [h2]; exact h1
            rcases Nat.lt_or_ge j m with hjm | hjm
            · have wl : ilt (j : Int) n = true := by rw [ilt_t, ← hm]; omega
              have hlm := hlm hjm
              clear hlay hlim hbnd hne htr hNj htgt hNx hN5 hNn hbj
              by_cases hfull : 10000 < (inner.foldl layQ ((repL j inner).foldl layQ (⟨ls, t1 :: ts, gl, gt⟩ : AxS))).ts.length
              · rw [hlm hfull]
                clear hsj hlm
                generalize inner.foldl layQ ((repL j inner).foldl layQ (⟨ls, t1 :: ts, gl, gt⟩ : AxS)) = s2 at *
                generalize (repL j inner).foldl layQ (⟨ls, t1 :: ts, gl, gt⟩ : AxS) = s1 at *
                rcases s2 with ⟨ls2, _ | ⟨t2, ts2⟩, gl2, gt2⟩
                · exact (htj rfl).elim
                have wd : decide (10000 < (t2 :: ts2).length) = true := decide_eq_true hfull
                rcases s1 with ⟨ls1, _ | ⟨t3, ts1⟩, gl1, gt1⟩
                · conv => whnf
                  repeat' ((first | refine vb_t rfl ?_ | refine vb_f rfl ?_ | refine vb_t ‹_› ?_ | refine vb_f ‹_› ?_ | refine vcall_i hlj ?_ | refine vor_l ?_ | fail) <;> conv => whnf)
                  exact ⟨rfl, rfl⟩
                · conv => whnf
                  repeat' ((first | refine vb_t rfl ?_ | refine vb_f rfl ?_ | refine vb_t ‹_› ?_ | refine vb_f ‹_› ?_ | refine vcall_i hlj ?_ | refine vor_l ?_ | fail) <;> conv => whnf)
                  exact ⟨rfl, rfl⟩
              · have hJ2 : 0 < j + 1 → ((repL (j + 1) inner).foldl layQ (⟨ls, t1 :: ts, gl, gt⟩ : AxS)).ts.length ≤ 10000 := fun _ => by rw [hsj]; exact Nat.not_lt.1 hfull
                clear hlm hJ
                generalize inner.foldl layQ ((repL j inner).foldl layQ (⟨ls, t1 :: ts, gl, gt⟩ : AxS)) = s2 at *
                generalize (repL j inner).foldl layQ (⟨ls, t1 :: ts, gl, gt⟩ : AxS) = s1 at *
                rcases s2 with ⟨ls2, _ | ⟨t2, ts2⟩, gl2, gt2⟩
                · exact (htj rfl).elim
                have wd : decide (10000 < (t2 :: ts2).length) = false := decide_eq_false hfull
                rcases s1 with ⟨ls1, _ | ⟨t3, ts1⟩, gl1, gt1⟩
                · conv => whnf
                  repeat' ((first | refine vb_t rfl ?_ | refine vb_f rfl ?_ | refine vb_t ‹_› ?_ | refine vb_f ‹_› ?_ | refine vcall_i hlj ?_ | refine vor_l ?_ | fail) <;> conv => whnf)
                  exact ⟨⟨(j + 1, ()), (by omega), hJ2⟩, (by simp only; omega), (by repeat' (first | exact rfl | exact slot_eq (I_eq (iadd_one (by omega))) | (refine cons_eq ?_ ?_) | assumption)), congrArg (ixH fr to (.mk kd vn names t cn (.sl 11 (inner.map pcRow)) inner)) hsj.symm, rfl, rfl⟩
                · conv => whnf
                  repeat' ((first | refine vb_t rfl ?_ | refine vb_f rfl ?_ | refine vb_t ‹_› ?_ | refine vb_f ‹_› ?_ | refine vcall_i hlj ?_ | refine vor_l ?_ | fail) <;> conv => whnf)
                  exact ⟨⟨(j + 1, ()), (by omega), hJ2⟩, (by simp only; omega), (by repeat' (first | exact rfl | exact slot_eq (I_eq (iadd_one (by omega))) | (refine cons_eq ?_ ?_) | assumption)), congrArg (ixH fr to (.mk kd vn names t cn (.sl 11 (inner.map pcRow)) inner)) hsj.symm, rfl, rfl⟩
            · obtain rfl : j = m := by omega
              have wl : ilt (j : Int) n = false := by rw [ilt_f, ← hm]; omega
              have hNj := hNj rfl
              clear hlay hlim hbnd hne htr htgt hNx hN5 hNn hsj hlj hlm htj hJ
              generalize (repL j inner).foldl layQ (⟨ls, t1 :: ts, gl, gt⟩ : AxS) = s1 at *
              rcases s1 with ⟨ls1, _ | ⟨t3, ts1⟩, gl1, gt1⟩
              · conv => whnf
                repeat' ((first | refine vb_t rfl ?_ | refine vb_f rfl ?_ | refine vb_t ‹_› ?_ | refine vb_f ‹_› ?_ | refine vor_l ?_ | fail) <;> conv => whnf)
                exact ⟨⟨(k + 1, (_, fr, to)), (by omega), hNj⟩, (by simp only; omega), (by repeat' (first | exact rfl | exact slot_eq (I_eq (iadd_one (by omega))) | (refine cons_eq ?_ ?_) | assumption)), rfl, rfl, rfl⟩
              · conv => whnf
                repeat' ((first | refine vb_t rfl ?_ | refine vb_f rfl ?_ | refine vb_t ‹_› ?_ | refine vb_f ‹_› ?_ | refine vor_l ?_ | fail) <;> conv => whnf)
                exact ⟨⟨(k + 1, (_, fr, to)), (by omega), hNj⟩, (by simp only; omega), (by repeat' (first | exact rfl | exact slot_eq (I_eq (iadd_one (by omega))) | (refine cons_eq ?_ ?_) | assumption)), rfl, rfl, rfl⟩
  · obtain rfl : k = l.length := by omega
    have hl := nlt_len (f := pcRow) (Nat.not_lt.2 (Nat.le_refl l.length))
    obtain ⟨hB, hI⟩ := hI
    rw [List.take_length] at hI
    rcases hI with ⟨hX, hle⟩ | ⟨h1, h2⟩
    · rw [← hX]
      unfold axA
      rw [if_pos hle]
      have hbl := hB.1
      have hgl1 : ∀ g : Nat, Nat.beq g g = true := fun g => by simp
      rcases s with ⟨ls, _ | ⟨t1, ts⟩, gl, gt⟩
      · have hg1 := hgl1 gl
        conv => whnf
        repeat' ((first | refine vb_t rfl ?_ | refine vb_f rfl ?_ | refine vb_t ‹_› ?_ | refine vb_f ‹_› ?_ | refine vor_l ?_ | fail) <;> conv => whnf)
        refine ⟨?_, rfl⟩
        show CR.ret (AV.tup [.agg [.d (.sl 1 (((ls.map lnRow).take ls.length).drop 0)), .d .nilsl, I fr, I to], I 0]) = _
        rw [List.drop_zero, List.take_of_length_le (by simp)]
        rfl
      · have wd : decide (10000 < (t1 :: ts).length) = false := decide_eq_false (Nat.not_lt.2 hle)
        have hg1 := hgl1 gl
        have hg2 := hgl1 gt
        conv => whnf
        repeat' ((first | refine vb_t rfl ?_ | refine vb_f rfl ?_ | refine vb_t ‹_› ?_ | refine vb_f ‹_› ?_ | refine vor_l ?_ | fail) <;> conv => whnf)
        refine ⟨?_, rfl⟩
        show CR.ret (AV.tup [.agg [.d (.sl 1 (((ls.map lnRow).take ls.length).drop 0)), .d (.sl 7 ((((t1 :: ts).map trkRow).take (t1 :: ts).length).drop 0)), I fr, I to], I 0]) = _
        rw [List.drop_zero, List.take_of_length_le (by simp), List.drop_zero, List.take_of_length_le (by simp)]
        rfl
    · have hA : axA (axF n l) = .tup [.agg [.d .nilsl, .d .nilsl, I 0, I 0], I 52] := by
        unfold axA
        rw [if_neg (Nat.not_le.2 h2)]
      rw [hA]
      rcases s with ⟨ls, _ | ⟨t1, ts⟩, gl, gt⟩
      · simp at h1
      · have wd : decide (10000 < (t1 :: ts).length) = true := decide_eq_true h1
        conv => whnf
        repeat' ((first | refine vb_t rfl ?_ | refine vb_f rfl ?_ | refine vb_t ‹_› ?_ | refine vb_f ‹_› ?_ | refine vor_l ?_ | fail) <;> conv => whnf)
        exact ⟨rfl, rfl⟩
end Go.Proofs.YtjeblkicgmmhiaaGreatDoor.Ab
namespace Go.Proofs.YtjeblkicgmmhiaaGreatDoor.Ab
open Go
set_option linter.unusedSimpArgs false
set_option linter.unusedVariables false
/-- How many names stand on an axis. -/
def nmC : List (List (List UInt8)) → Nat
  | [] => 0
  | x :: l => x.length + nmC l
theorem nmC_append (a b : List (List (List UInt8))) : nmC (a ++ b) = nmC a + nmC b := by
  induction a with
  | nil => simp [nmC]
  | cons x a ih => simp only [List.cons_append, nmC, ih]; omega
theorem nmC_set {ls : List (List (List UInt8))} {i : Nat} {y : List (List UInt8)} (h : ls[i]? = some y) (z : List (List UInt8)) : nmC (ls.set i (y ++ z)) = nmC ls + z.length := by
  induction ls generalizing i with
  | nil => simp at h
  | cons x l ih =>
    cases i with
    | zero =>
      simp only [List.getElem?_cons_zero, Option.some.injEq] at h
      subst h
      simp only [List.set_cons_zero, nmC, List.length_append]; omega
    | succ i =>
      simp only [List.getElem?_cons_succ] at h
      simp only [List.set_cons_succ, nmC, ih h]; omega
theorem lay_names {s : AxS} {q : Pc} (hl : s.ls.length = s.ts.length + 1) (hk : q.kind = 1) : nmC (layQ s q).ls = nmC s.ls + q.names.length ∧ (layQ s q).ts = s.ts := by
  obtain ⟨y, hy⟩ := get_in (l := s.ls) (k := s.ls.length - 1) (by omega)
  unfold layQ
  rw [if_pos hk]
  simp only [hy, Option.getD_some]
  exact ⟨nmC_set hy _, trivial⟩
theorem lay_trk {s : AxS} {q : Pc} (hk : q.kind ≠ 1) : nmC (layQ s q).ls = nmC s.ls ∧ (layQ s q).ts = s.ts ++ [q.t] := by
  unfold layQ
  rw [if_neg hk]
  exact ⟨by simp [nmC_append, nmC], rfl⟩
theorem nmC_drop {ls : List (List (List UInt8))} {k : Nat} {x : List (List UInt8)} (h : ls[k]? = some x) : nmC (ls.drop k) = x.length + nmC (ls.drop (k + 1)) := by
  obtain ⟨hk, rfl⟩ := List.getElem?_eq_some_iff.1 h
  rw [List.drop_eq_getElem_cons hk]
  rfl
/-- Does one axis begin as another. -/
def Pre (a b : AxS) : Prop := a.ts <+: b.ts
theorem pre_layQ {s : AxS} {q : Pc} : Pre s (layQ s q) := by
  unfold Pre layQ
  split
  · exact List.prefix_refl _
  · exact List.prefix_append _ _
theorem pre_lay {L : List Pc} : ∀ {s : AxS}, Pre s (L.foldl layQ s) := by
  induction L with
  | nil => intro s; exact List.prefix_refl _
  | cons q L ih => intro s; exact List.IsPrefix.trans pre_layQ ih
theorem pre_rep {a b : Nat} {L : List Pc} {s : AxS} (h : a ≤ b) : Pre ((repL a L).foldl layQ s) ((repL b L).foldl layQ s) := by
  induction b with
  | zero => obtain rfl : a = 0 := by omega
            exact List.prefix_refl _
  | succ b ih =>
    rcases Nat.lt_or_ge a (b + 1) with h1 | h1
    · rw [repL_foldl]
      exact List.IsPrefix.trans (ih (by omega)) pre_lay
    · obtain rfl : a = b + 1 := by omega
      exact List.prefix_refl _
theorem pre_axL {n : Int} : ∀ {l : List Pc} {x : AxS × Int × Int}, Pre x.1 (l.foldl (axP n) x).1
  | [], x => List.prefix_refl _
  | p :: l, x => List.IsPrefix.trans (pre_lay (L := itP n p)) (pre_axL (x := axP n x p))
theorem pre_axF {n : Int} {l : List Pc} {k : Nat} : Pre (axF n (l.take k)).1 (axF n l).1 := by
  have h : axF n l = (l.drop k).foldl (axP n) (axF n (l.take k)) := by
    unfold axF
    rw [← List.foldl_append, List.take_append_drop]
  rw [h]
  exact pre_axL
theorem pre_take {L : List Pc} {i : Nat} {s : AxS} : Pre ((L.take i).foldl layQ s) (L.foldl layQ s) := by
  have h : L.foldl layQ s = (L.drop i).foldl layQ ((L.take i).foldl layQ s) := by rw [← List.foldl_append, List.take_append_drop]
  rw [h]
  exact pre_lay
theorem pre_get {a : List Trk} {t : Trk} {b : List Trk} (h : (a ++ [t]) <+: b) : b[a.length]? = some t := by
  obtain ⟨c, rfl⟩ := h
  simp
/-- At most so many names. -/
def NmB (c : Nat) (s : AxS) : Prop := s.ls.length = s.ts.length + 1 ∧ nmC s.ls ≤ 16 * c
theorem nmB_lay {c : Nat} {s : AxS} {q : Pc} (h : NmB c s) (hq : LayP q) : NmB (c + 1) (layQ s q) := by
  by_cases hk : q.kind = 1
  · obtain ⟨h1, h2⟩ := lay_names h.1 hk
    have h3 := (hq.2 hk).2
    have h4 := h.2
    refine ⟨?_, by omega⟩
    have := h.1
    rw [h2, ← this]
    unfold layQ
    rw [if_pos hk]
    simp
  · obtain ⟨h1, h2⟩ := lay_trk (s := s) hk
    have h4 := h.2
    refine ⟨?_, by omega⟩
    have := h.1
    unfold layQ
    rw [if_neg hk]
    simp [this]
theorem nmB_fold {L : List Pc} (hL : ∀ q ∈ L, LayP q) : ∀ {c : Nat} {s : AxS}, NmB c s → NmB (c + L.length) (L.foldl layQ s) := by
  induction L with
  | nil => intro c s h; exact h
  | cons q L ih =>
    intro c s h
    have := ih (fun p hp => hL p (List.mem_cons_of_mem _ hp)) (nmB_lay h (hL q (List.mem_cons_self ..)))
    rw [List.length_cons, show c + (L.length + 1) = c + 1 + L.length by omega]
    exact this
theorem nmB_mono {c c' : Nat} {s : AxS} (h : c ≤ c') (hB : NmB c s) : NmB c' s := ⟨hB.1, by have := hB.2; omega⟩
theorem itP_len {n : Int} {p : Pc} (ha : AloneP p) (hn : n ≤ 10000) (hi : p.inner.length ≤ 256) : (itP n p).length ≤ 2560000 := by
  unfold itP
  split
  · simp
  · rw [repL_len]
    have := Nat.mul_le_mul (tmN_le ha hn) hi
    omega
theorem itP_lay {n : Int} {p : Pc} (hp : LayP p) (hi : ∀ q ∈ p.inner, LayP q) : ∀ q ∈ itP n p, LayP q := by
  intro q hq
  unfold itP at hq
  split at hq
  · rw [List.mem_singleton.1 hq]; exact hp
  · exact hi q (repL_mem hq)
theorem nmB_axF {n : Int} {l : List Pc} (hG : GoodP l) (hall : ∀ p ∈ l, PcOk p) (hn : n ≤ 10000) : ∀ k, k ≤ l.length → NmB (2560000 * k) (axF n (l.take k)).1
  | 0, _ => ⟨rfl, Nat.le_refl _⟩
  | k + 1, hk => by
    obtain ⟨p, hp⟩ := get_in (l := l) (k := k) (by omega)
    rw [axF_succ hp]
    have hm := List.mem_of_getElem? hp
    obtain ⟨h1, h2, h3, _⟩ := good_lay hG hall p hm
    exact nmB_mono (by have := itP_len ((good_alone hG).1 p hm) hn h3; omega) (nmB_fold (itP_lay h1 h2) (nmB_axF hG hall hn k (by omega)))
end Go.Proofs.YtjeblkicgmmhiaaGreatDoor.Ab
namespace Go.Proofs.YtjeblkicgmmhiaaGreatDoor.Ab
open Go
set_option maxRecDepth 100000
theorem lives15_ok : Pur F0 20 [] [] .no (.ret (B true)) .no := pur_closed (n := 100) (by kernel_rfl)
end Go.Proofs.YtjeblkicgmmhiaaGreatDoor.Ab
namespace Go.Proofs.YtjeblkicgmmhiaaGreatDoor.Ab
open Go
set_option linter.unusedSimpArgs false
set_option maxRecDepth 100000
set_option linter.unusedVariables false
set_option maxHeartbeats 8000000
theorem ieqs (a : Int) : ieq a a = true := by rw [ieq_t]
theorem axis_err (v : DV) (size gap : Int) (b : Bool) (n e : Int) (hC : Pur F0 22 [.d v, I size, B b, I gap] [] .no (.ret (.tup [I n, I e])) .no) (he : e ≠ 0) :
    Pur F0 24 [.d v, I size, B b, I gap] [] .no (.ret (.tup [.agg [.d .nilsl, .d .nilsl, I 0, I 0], I e])) .no := by
  have z : (!ieq e (Int.ofNat 0)) = true := by rw [Bool.not_eq_true', ieq_f]; exact he
  refine pur_code code24_ok ?_
  conv => whnf
  repeat' ((first | refine vb_t rfl ?_ | refine vb_f rfl ?_ | refine vb_t ‹_› ?_ | refine vb_f ‹_› ?_ | refine vpur_i hC ?_ | refine vor_l ?_ | fail) <;> conv => whnf)
  exact ⟨rfl, rfl⟩
theorem many_err (v : DV) (size gap : Int) (e : Int) (hL : Pur F0 21 [.d v] [] .no (.ret (B true)) .no) (hA : Pur F0 24 [.d v, I size, B false, I gap] [] .no (.ret (.tup [.agg [.d .nilsl, .d .nilsl, I 0, I 0], I e])) .no) (he : e ≠ 0) :
    Pur F0 8 [.d v, I size, I gap] [] .no (.ret (B true)) .no := by
  have z : (!ieq e (Int.ofNat 0)) = true := by rw [Bool.not_eq_true', ieq_f]; exact he
  have hx : (!true) = false := rfl
  have h0 : ieq (iadd .i64 (0 : Int) (0 : Int)) (Int.ofNat 0) = true := by rw [iadd64 (by decide) (by decide), ieq_t]; rfl
  refine pur_code code8_ok ?_
  conv => whnf
  repeat' ((first | refine vb_t rfl ?_ | refine vb_f rfl ?_ | refine vb_t ‹_› ?_ | refine vb_f ‹_› ?_ | refine vpur_i hL ?_ | refine vpur_i hA ?_ | refine vpur_i lives15_ok ?_ | refine vor_l ?_ | fail) <;> conv => whnf)
  exact ⟨rfl, rfl⟩
theorem many_sl (l : List Pc) (size gap n : Int) (hL : Pur F0 21 [.d (.sl 11 (l.map pcRow))] [] .no (.ret (B true)) .no)
    (hA : Pur F0 24 [.d (.sl 11 (l.map pcRow)), I size, B false, I gap] [] .no (.ret (axA (axF n l))) .no)
    (hG : GoodP l) (hall : ∀ p ∈ l, PcOk p) (hn0 : 0 ≤ n) (hn1 : n ≤ 1) (hfill : (∃ p ∈ l, AutoK p.kind) → 1 ≤ n) :
    Pur F0 8 [.d (.sl 11 (l.map pcRow)), I size, I gap] [] .no (.ret (B true)) .no := by
  obtain ⟨hal, hlen⟩ := good_alone hG
  have hgl := good_lay hG hall
  have hNB := nmB_axF (n := n) hG hall (by omega)
  have hpreF := fun k => pre_axF (n := n) (l := l) (k := k)
  have hNF := hNB l.length (Nat.le_refl _)
  rw [List.take_length] at hNF
  have hend : (axF n (l.take l.length)).1 = (axF n l).1 := by rw [List.take_length]
  generalize hF : axF n l = F at *
  rcases F with ⟨⟨ls, ts, gl, gt⟩, fr, to⟩
  unfold axA at hA
  by_cases hle : ts.length ≤ 10000
  · rw [if_pos hle] at hA
    obtain ⟨hls, hnm⟩ := hNF
    simp only at hls hnm hle hA hpreF
    have z : (!ieq (0 : Int) (Int.ofNat 0)) = false := by rw [Bool.not_eq_false', ieq_t]; rfl
    have hx : (!true) = false := rfl
    rcases ts with _ | ⟨t1, ts⟩
    · refine pur_code code8_ok ?_
      conv => whnf
      repeat' ((first | refine vb_t rfl ?_ | refine vb_f rfl ?_ | refine vb_t ‹_› ?_ | refine vb_f ‹_› ?_ | refine vpur_i hL ?_ | refine vpur_i hA ?_ | refine vor_l ?_ | fail) <;> conv => whnf)
      refine vloop_cnt (α := Unit) l.length (fun _ _ => True) (fun k _ => [(9, I ((axF n (l.take k)).1.ts.length : Int)), (10, I (nmC (axF n (l.take k)).1.ls : Int)), (45, I (k : Int))]) () trivial rfl ?_
      intro k _ hk _
      rcases Nat.lt_or_ge k l.length with hlt | hge
      · obtain ⟨p, hp⟩ := get_in hlt
        have hg := iget_map (f := pcRow) hp
        have hl := lt_len (f := pcRow) hlt
        have hm := List.mem_of_getElem? hp
        obtain ⟨hLp, hLi, hil, hRk⟩ := hgl p hm
        have hap := hal p hm
        have hS : (axF n (l.take (k + 1))).1 = (axP n (axF n (l.take k)) p).1 := by rw [axF_succ hp]
        have hNk := hNB k (by omega)
        have hPk := hpreF (k + 1)
        rw [axF_succ hp] at hPk
        have hPo := hLp.1
        by_cases hk12 : p.kind = 1 ∨ p.kind = 2
        · have hc0 := count0 hap hk12
          have hit : itP n p = repL 1 [p] := if_pos hk12
          have hx : (axP n (axF n (l.take k)) p).1 = (repL 1 [p]).foldl layQ (axF n (l.take k)).1 := by unfold axP; rw [hit]
          rw [hx] at hS hPk
          have hLI : ∀ q ∈ [p], LayP q := fun q hq => by rw [List.mem_singleton.1 hq]; exact hLp
          generalize (axF n (l.take k)).1 = Sk at *
          clear hx hit hgl hNB hpreF hal hend
          cases hPo with
          | @mk kd vn names t cn vi inner hvn hvi hin =>
          obtain ⟨a1, a2, a3, a4, a5, a6, a7⟩ := t
          simp only [Pc.kind] at hk12
          have w0 : ilt ((0 : Nat) : Int) (Int.ofNat 1) = true := by rw [ilt_t]; decide
          have w1 : ilt ((1 : Nat) : Int) (Int.ofNat 1) = false := by rw [ilt_f]; decide
          by_cases hk1 : kd = 1
          · have q1 : ieq kd (Int.ofNat 1) = true := by rw [ieq_t]; exact hk1
            conv => whnf
            repeat' ((first | refine vb_t rfl ?_ | refine vb_f rfl ?_ | refine vb_t ‹_› ?_ | refine vb_f ‹_› ?_ | refine vo_i hg ?_ | refine vor_l ?_ | fail) <;> conv => whnf)
            refine vloop_cnt (α := Unit) 1 (fun _ _ => True) (fun j _ => [(9, I (((repL j [Pc.mk kd vn names ⟨a1, a2, a3, a4, a5, a6, a7⟩ cn vi inner]).foldl layQ Sk).ts.length : Int)), (10, I (nmC ((repL j [Pc.mk kd vn names ⟨a1, a2, a3, a4, a5, a6, a7⟩ cn vi inner]).foldl layQ Sk).ls : Int)), (65, I (j : Int))]) () trivial rfl ?_
            intro j _ hj _
            rcases Nat.lt_or_ge j 1 with hj1 | hj1
            · obtain rfl : j = 0 := by omega
              conv => whnf
              repeat' ((first | refine vb_t rfl ?_ | refine vb_f rfl ?_ | refine vb_t ‹_› ?_ | refine vb_f ‹_› ?_ | refine vor_l ?_ | fail) <;> conv => whnf)
              refine vloop_cnt (α := Unit) 1 (fun _ _ => True) (fun i _ => [(9, I ((([Pc.mk kd vn names ⟨a1, a2, a3, a4, a5, a6, a7⟩ cn vi inner].take i).foldl layQ Sk).ts.length : Int)), (10, I (nmC (([Pc.mk kd vn names ⟨a1, a2, a3, a4, a5, a6, a7⟩ cn vi inner].take i).foldl layQ Sk).ls : Int)), (69, I (i : Int))]) () trivial rfl ?_
              intro i _ hi _
              rcases Nat.lt_or_ge i 1 with hi1 | hi1
              · obtain rfl : i = 0 := by omega
                have hlq : ilt ((0 : Nat) : Int) (((1 : Nat) : Int) - ((0 : Nat) : Int)) = true := by rw [ilt_t]; decide
                have hgq : iget (List.drop 0 (List.take 1 [pcRow (Pc.mk kd vn names ⟨a1, a2, a3, a4, a5, a6, a7⟩ cn vi inner)])) ((0 : Nat) : Int) = some (pcRow (Pc.mk kd vn names ⟨a1, a2, a3, a4, a5, a6, a7⟩ cn vi inner)) := iget_t rfl
                have hgr : ([pcRow (Pc.mk kd vn names ⟨a1, a2, a3, a4, a5, a6, a7⟩ cn vi inner)] : List (List DV))[0 + (((0 : Nat) : Int)).toNat]? = some (pcRow (Pc.mk kd vn names ⟨a1, a2, a3, a4, a5, a6, a7⟩ cn vi inner)) := rfl
                have hLq := hLp
                have hPq : Pre (layQ Sk (Pc.mk kd vn names ⟨a1, a2, a3, a4, a5, a6, a7⟩ cn vi inner)) ⟨ls, [], gl, gt⟩ := hPk
                have n1 : iadd .i64 ((0 : Nat) : Int) (Int.ofNat 1) = ((1 : Nat) : Int) := by rw [iadd64 (by decide) (by decide)]; rfl
                have hNq := hNk
                obtain ⟨hn0, hn16⟩ := hLq.2 hk1
                obtain ⟨g1, g2⟩ := lay_names hNq.1 (show (Pc.mk kd vn names ⟨a1, a2, a3, a4, a5, a6, a7⟩ cn vi inner).kind = 1 from hk1)
                rcases hvn with ⟨rfl, hvn⟩ | rfl
                · exact (hn0 (List.map_eq_nil_iff.1 hvn)).elim
                simp only [Pc.names] at hn16 g1
                have e10 : iadd .i64 (nmC (Sk).ls : Int) ((names.map wsRow).length : Int) = (nmC (layQ Sk (Pc.mk kd (.sl 1 (names.map wsRow)) names ⟨a1, a2, a3, a4, a5, a6, a7⟩ cn vi inner)).ls : Int) := by
                  have := hNq.2
                  rw [g1, List.length_map, iadd64 (by omega) (by omega)]; omega
                have e9 : ((Sk).ts.length : Int) = ((layQ Sk (Pc.mk kd (.sl 1 (names.map wsRow)) names ⟨a1, a2, a3, a4, a5, a6, a7⟩ cn vi inner)).ts.length : Int) := by rw [g2]
                conv => whnf
                repeat' ((first | refine vb_t rfl ?_ | refine vb_f rfl ?_ | refine vb_t ‹_› ?_ | refine vb_f ‹_› ?_ | refine vo_i hgq ?_ | refine vo_i hgr ?_ | refine vor_l ?_ | fail) <;> conv => whnf)
                exact ⟨⟨(1, ()), (by omega), trivial⟩, (by simp only; omega), (by repeat' (first | exact rfl | exact slot_eq (I_eq (e9.trans rfl)) | exact slot_eq (I_eq (e10.trans rfl)) | exact slot_eq (I_eq n1) | refine cons_eq ?_ ?_)), rfl, rfl, rfl⟩
              · obtain rfl : i = 1 := by omega
                have hlq : ilt ((1 : Nat) : Int) (((1 : Nat) : Int) - ((0 : Nat) : Int)) = false := by rw [ilt_f]; decide
                have n1 : iadd .i64 ((0 : Nat) : Int) (Int.ofNat 1) = ((1 : Nat) : Int) := by rw [iadd64 (by decide) (by decide)]; rfl
                conv => whnf
                repeat' ((first | refine vb_t rfl ?_ | refine vb_f rfl ?_ | refine vb_t ‹_› ?_ | refine vb_f ‹_› ?_ | refine vor_l ?_ | fail) <;> conv => whnf)
                exact ⟨⟨(1, ()), (by omega), trivial⟩, (by simp only; omega), (by repeat' (first | exact rfl | exact slot_eq (I_eq n1) | refine cons_eq ?_ ?_)), rfl, rfl, rfl⟩
            · obtain rfl : j = 1 := by omega
              conv => whnf
              repeat' ((first | refine vb_t rfl ?_ | refine vb_f rfl ?_ | refine vb_t ‹_› ?_ | refine vb_f ‹_› ?_ | refine vor_l ?_ | fail) <;> conv => whnf)
              exact ⟨⟨(k + 1, ()), (by omega), trivial⟩, (by simp only; omega), (by repeat' (first | exact rfl | exact slot_eq (I_eq (by rw [hS])) | exact slot_eq (I_eq (iadd_one (by omega))) | refine cons_eq ?_ ?_)), rfl, rfl, rfl⟩
          · have q1 : ieq kd (Int.ofNat 1) = false := by rw [ieq_f]; exact hk1
            have q2 : ieq kd (Int.ofNat 2) = true := by rw [ieq_t]; exact hk12.resolve_left hk1
            conv => whnf
            repeat' ((first | refine vb_t rfl ?_ | refine vb_f rfl ?_ | refine vb_t ‹_› ?_ | refine vb_f ‹_› ?_ | refine vo_i hg ?_ | refine vor_l ?_ | fail) <;> conv => whnf)
            refine vloop_cnt (α := Unit) 1 (fun _ _ => True) (fun j _ => [(9, I (((repL j [Pc.mk kd vn names ⟨a1, a2, a3, a4, a5, a6, a7⟩ cn vi inner]).foldl layQ Sk).ts.length : Int)), (10, I (nmC ((repL j [Pc.mk kd vn names ⟨a1, a2, a3, a4, a5, a6, a7⟩ cn vi inner]).foldl layQ Sk).ls : Int)), (65, I (j : Int))]) () trivial rfl ?_
            intro j _ hj _
            rcases Nat.lt_or_ge j 1 with hj1 | hj1
            · obtain rfl : j = 0 := by omega
              conv => whnf
              repeat' ((first | refine vb_t rfl ?_ | refine vb_f rfl ?_ | refine vb_t ‹_› ?_ | refine vb_f ‹_› ?_ | refine vor_l ?_ | fail) <;> conv => whnf)
              refine vloop_cnt (α := Unit) 1 (fun _ _ => True) (fun i _ => [(9, I ((([Pc.mk kd vn names ⟨a1, a2, a3, a4, a5, a6, a7⟩ cn vi inner].take i).foldl layQ Sk).ts.length : Int)), (10, I (nmC (([Pc.mk kd vn names ⟨a1, a2, a3, a4, a5, a6, a7⟩ cn vi inner].take i).foldl layQ Sk).ls : Int)), (69, I (i : Int))]) () trivial rfl ?_
              intro i _ hi _
              rcases Nat.lt_or_ge i 1 with hi1 | hi1
              · obtain rfl : i = 0 := by omega
                have hlq : ilt ((0 : Nat) : Int) (((1 : Nat) : Int) - ((0 : Nat) : Int)) = true := by rw [ilt_t]; decide
                have hgq : iget (List.drop 0 (List.take 1 [pcRow (Pc.mk kd vn names ⟨a1, a2, a3, a4, a5, a6, a7⟩ cn vi inner)])) ((0 : Nat) : Int) = some (pcRow (Pc.mk kd vn names ⟨a1, a2, a3, a4, a5, a6, a7⟩ cn vi inner)) := iget_t rfl
                have hgr : ([pcRow (Pc.mk kd vn names ⟨a1, a2, a3, a4, a5, a6, a7⟩ cn vi inner)] : List (List DV))[0 + (((0 : Nat) : Int)).toNat]? = some (pcRow (Pc.mk kd vn names ⟨a1, a2, a3, a4, a5, a6, a7⟩ cn vi inner)) := rfl
                have hLq := hLp
                have hPq : Pre (layQ Sk (Pc.mk kd vn names ⟨a1, a2, a3, a4, a5, a6, a7⟩ cn vi inner)) ⟨ls, [], gl, gt⟩ := hPk
                have n1 : iadd .i64 ((0 : Nat) : Int) (Int.ofNat 1) = ((1 : Nat) : Int) := by rw [iadd64 (by decide) (by decide)]; rfl
                have hNq := hNk
                obtain ⟨g1, g2⟩ := lay_trk (s := Sk) (show (Pc.mk kd vn names ⟨a1, a2, a3, a4, a5, a6, a7⟩ cn vi inner).kind ≠ 1 from hk1)
                have hget := pre_get (a := (Sk).ts) (t := ⟨a1, a2, a3, a4, a5, a6, a7⟩) (by have h := hPq; unfold Pre at h; rw [g2] at h; exact h)
                simp at hget
              · obtain rfl : i = 1 := by omega
                have hlq : ilt ((1 : Nat) : Int) (((1 : Nat) : Int) - ((0 : Nat) : Int)) = false := by rw [ilt_f]; decide
                have n1 : iadd .i64 ((0 : Nat) : Int) (Int.ofNat 1) = ((1 : Nat) : Int) := by rw [iadd64 (by decide) (by decide)]; rfl
                conv => whnf
                repeat' ((first | refine vb_t rfl ?_ | refine vb_f rfl ?_ | refine vb_t ‹_› ?_ | refine vb_f ‹_› ?_ | refine vor_l ?_ | fail) <;> conv => whnf)
                exact ⟨⟨(1, ()), (by omega), trivial⟩, (by simp only; omega), (by repeat' (first | exact rfl | exact slot_eq (I_eq n1) | refine cons_eq ?_ ?_)), rfl, rfl, rfl⟩
            · obtain rfl : j = 1 := by omega
              conv => whnf
              repeat' ((first | refine vb_t rfl ?_ | refine vb_f rfl ?_ | refine vb_t ‹_› ?_ | refine vb_f ‹_› ?_ | refine vor_l ?_ | fail) <;> conv => whnf)
              exact ⟨⟨(k + 1, ()), (by omega), trivial⟩, (by simp only; omega), (by repeat' (first | exact rfl | exact slot_eq (I_eq (by rw [hS])) | exact slot_eq (I_eq (iadd_one (by omega))) | refine cons_eq ?_ ?_)), rfl, rfl, rfl⟩
        · obtain ⟨hRep, hTr⟩ := hRk hk12
          have hit : itP n p = repL (tmN n p) p.inner := if_neg hk12
          have hx : (axP n (axF n (l.take k)) p).1 = (repL (tmN n p) p.inner).foldl layQ (axF n (l.take k)).1 := by unfold axP; rw [hit]
          rw [hx] at hS hPk
          have htm := tmN_le hap (show n ≤ 10000 by omega)
          have hmx : imax (Int.ofNat 1) p.count = (tmN n p : Int) := by
            unfold tmN
            rw [imax_t, o1']
            rcases hap with ⟨h1, _⟩ | ⟨h1, _⟩ | ⟨h1, h2, _⟩ | ⟨h1, _, _, h2⟩
            · exact (hk12 (.inl h1)).elim
            · exact (hk12 (.inr h1)).elim
            · rw [if_pos h1]; omega
            · have := hfill ⟨p, hm, h1⟩
              rw [if_neg (by unfold AutoK at h1; omega)]; omega
          have hnin : p.inner ≠ [] := fun h => by obtain ⟨q, hq, _⟩ := hTr; rw [h] at hq; cases hq
          generalize tmN n p = m at *
          generalize (axF n (l.take k)).1 = Sk at *
          clear hx hit hgl hNB hpreF hal hend hTr hap hRk
          cases hPo with
          | @mk kdp vnp namesp tp cnp vip IN hvnp hvip hinp =>
          generalize hKD : (Pc.mk kdp vnp namesp tp cnp vip IN).kind = KD at *
          generalize hIN : (Pc.mk kdp vnp namesp tp cnp vip IN).inner = IN' at *
          generalize hCN : (Pc.mk kdp vnp namesp tp cnp vip IN).count = CN at *
          obtain rfl : kdp = KD := hKD
          obtain rfl : IN = IN' := hIN
          obtain rfl : cnp = CN := hCN
          rcases hvip with ⟨rfl, hvip⟩ | rfl
          · exact (hnin (List.map_eq_nil_iff.1 hvip)).elim
          have q1 : ieq kdp (Int.ofNat 1) = false := by rw [ieq_f]; exact fun e => hk12 (.inl e)
          have q2 : ieq kdp (Int.ofNat 2) = false := by rw [ieq_f]; exact fun e => hk12 (.inr e)
          conv => whnf
          repeat' ((first | refine vb_t rfl ?_ | refine vb_f rfl ?_ | refine vb_t ‹_› ?_ | refine vb_f ‹_› ?_ | refine vo_i hg ?_ | refine vor_l ?_ | fail) <;> conv => whnf)
          refine vloop_cnt (α := Unit) m (fun _ _ => True) (fun j _ => [(9, I (((repL j IN).foldl layQ Sk).ts.length : Int)), (10, I (nmC ((repL j IN).foldl layQ Sk).ls : Int)), (65, I (j : Int))]) () trivial rfl ?_
          intro j _ hj _
          have hSS := hS
          clear q1 q2 hg hl hS
          rcases Nat.lt_or_ge j m with hjm | hjm
          · have wl : ilt (j : Int) (imax (Int.ofNat 1) cnp) = true := by rw [hmx, ilt_t]; omega
            have hNj : NmB (2560000 * k + 2560000) ((repL j IN).foldl layQ Sk) := nmB_mono (by rw [repL_len]; have := Nat.mul_le_mul (show j ≤ 10000 by omega) hil; omega) (nmB_fold (L := repL j IN) (fun q hq => hLi q (repL_mem hq)) hNk)
            have hPj : Pre (IN.foldl layQ ((repL j IN).foldl layQ Sk)) ⟨ls, [], gl, gt⟩ := by
              rw [← repL_foldl]
              exact List.IsPrefix.trans (pre_rep hjm) hPk
            have hsj : (repL (j + 1) IN).foldl layQ Sk = IN.foldl layQ ((repL j IN).foldl layQ Sk) := repL_foldl
            conv => whnf
            repeat' ((first | refine vb_t rfl ?_ | refine vb_f rfl ?_ | refine vb_t ‹_› ?_ | refine vb_f ‹_› ?_ | refine vor_l ?_ | fail) <;> conv => whnf)
            refine vloop_cnt (α := Unit) IN.length (fun _ _ => True) (fun i _ => [(9, I (((IN.take i).foldl layQ ((repL j IN).foldl layQ Sk)).ts.length : Int)), (10, I (nmC ((IN.take i).foldl layQ ((repL j IN).foldl layQ Sk)).ls : Int)), (69, I (i : Int))]) () trivial rfl ?_
            intro i _ hi _
            rcases Nat.lt_or_ge i IN.length with hil2 | hil2
            · obtain ⟨q, hq⟩ := get_in hil2
              have hgq := iget_map (f := pcRow) hq
              have hlq := lt_len (f := pcRow) hil2
              have hLq := hLi q (List.mem_of_getElem? hq)
              have hS2 := foldl_succ (f := layQ) (s := (repL j IN).foldl layQ Sk) hq
              have hPq : Pre (layQ ((IN.take i).foldl layQ ((repL j IN).foldl layQ Sk)) q) ⟨ls, [], gl, gt⟩ := by
                rw [← hS2]
                exact List.IsPrefix.trans pre_take hPj
              have hNq : NmB (2560000 * k + 2560000 + 256) ((IN.take i).foldl layQ ((repL j IN).foldl layQ Sk)) := nmB_mono (by rw [List.length_take]; omega) (nmB_fold (L := IN.take i) (fun q hq => hLi q (List.mem_of_mem_take hq)) hNj)
              clear hPj hPk hNj hsj hq
              generalize (IN.take i).foldl layQ ((repL j IN).foldl layQ Sk) = S at *
              have hPq1 := hLq.1
              have n1 : iadd .i64 (i : Int) (Int.ofNat 1) = ((i + 1 : Nat) : Int) := by rw [iadd64 (by rw [o1']; omega) (by rw [o1']; omega), o1']; omega
              cases hPq1 with
              | @mk kd vn names t cn vi inner hvn hvi hin =>
              obtain ⟨a1, a2, a3, a4, a5, a6, a7⟩ := t
              have hgr := hgq
              by_cases hk1 : kd = 1
              · have q1 : ieq kd (Int.ofNat 1) = true := by rw [ieq_t]; exact hk1
                obtain ⟨hn0, hn16⟩ := hLq.2 hk1
                obtain ⟨g1, g2⟩ := lay_names hNq.1 (show (Pc.mk kd vn names ⟨a1, a2, a3, a4, a5, a6, a7⟩ cn vi inner).kind = 1 from hk1)
                rcases hvn with ⟨rfl, hvn⟩ | rfl
                · exact (hn0 (List.map_eq_nil_iff.1 hvn)).elim
                simp only [Pc.names] at hn16 g1
                have e10 : iadd .i64 (nmC (S).ls : Int) ((names.map wsRow).length : Int) = (nmC (layQ S (Pc.mk kd (.sl 1 (names.map wsRow)) names ⟨a1, a2, a3, a4, a5, a6, a7⟩ cn vi inner)).ls : Int) := by
                  have := hNq.2
                  rw [g1, List.length_map, iadd64 (by omega) (by omega)]; omega
                have e9 : ((S).ts.length : Int) = ((layQ S (Pc.mk kd (.sl 1 (names.map wsRow)) names ⟨a1, a2, a3, a4, a5, a6, a7⟩ cn vi inner)).ts.length : Int) := by rw [g2]
                conv => whnf
                repeat' ((first | refine vb_t rfl ?_ | refine vb_f rfl ?_ | refine vb_t ‹_› ?_ | refine vb_f ‹_› ?_ | refine vo_i hgq ?_ | refine vo_i hgr ?_ | refine vor_l ?_ | fail) <;> conv => whnf)
                exact ⟨⟨(i + 1, ()), (by omega), trivial⟩, (by simp only; omega), (by repeat' (first | exact rfl | exact slot_eq (I_eq (e9.trans (by rw [hS2]))) | exact slot_eq (I_eq (e10.trans (by rw [hS2]))) | exact slot_eq (I_eq n1) | refine cons_eq ?_ ?_)), rfl, rfl, rfl⟩
              · have q1 : ieq kd (Int.ofNat 1) = false := by rw [ieq_f]; exact hk1
                obtain ⟨g1, g2⟩ := lay_trk (s := S) (show (Pc.mk kd vn names ⟨a1, a2, a3, a4, a5, a6, a7⟩ cn vi inner).kind ≠ 1 from hk1)
                have hget := pre_get (a := (S).ts) (t := ⟨a1, a2, a3, a4, a5, a6, a7⟩) (by have h := hPq; unfold Pre at h; rw [g2] at h; exact h)
                simp at hget
            · have hlq := nlt_len (f := pcRow) (Nat.not_lt.2 hil2)
              have hjs : (IN.take i).foldl layQ ((repL j IN).foldl layQ Sk) = (repL (j + 1) IN).foldl layQ Sk := by rw [hsj, List.take_of_length_le hil2]
              have n1 : iadd .i64 (j : Int) (Int.ofNat 1) = ((j + 1 : Nat) : Int) := by rw [iadd64 (by rw [o1']; omega) (by rw [o1']; omega), o1']; omega
              conv => whnf
              repeat' ((first | refine vb_t rfl ?_ | refine vb_f rfl ?_ | refine vb_t ‹_› ?_ | refine vb_f ‹_› ?_ | refine vor_l ?_ | fail) <;> conv => whnf)
              exact ⟨⟨(j + 1, ()), (by omega), trivial⟩, (by simp only; omega), (by repeat' (first | exact rfl | exact slot_eq (I_eq (by rw [hjs])) | exact slot_eq (I_eq n1) | refine cons_eq ?_ ?_)), rfl, rfl, rfl⟩
          · obtain rfl : j = m := by omega
            have wl : ilt (j : Int) (imax (Int.ofNat 1) cnp) = false := by rw [hmx, ilt_f]; omega
            conv => whnf
            repeat' ((first | refine vb_t rfl ?_ | refine vb_f rfl ?_ | refine vb_t ‹_› ?_ | refine vb_f ‹_› ?_ | refine vor_l ?_ | fail) <;> conv => whnf)
            exact ⟨⟨(k + 1, ()), (by omega), trivial⟩, (by simp only; omega), (by repeat' (first | exact rfl | exact slot_eq (I_eq (by rw [hSS])) | exact slot_eq (I_eq (iadd_one (by omega))) | refine cons_eq ?_ ?_)), rfl, rfl, rfl⟩
      · obtain rfl : k = l.length := by omega
        have hl := nlt_len (f := pcRow) (Nat.not_lt.2 (Nat.le_refl l.length))
        show vC F0 _ _ (look (updL _ [(9, I ((axF n (l.take l.length)).1.ts.length : Int)), (10, I (nmC (axF n (l.take l.length)).1.ls : Int)), (45, I (l.length : Int))])) _ _ _ _
        rw [hend]
        conv => whnf
        repeat' ((first | refine vb_t rfl ?_ | refine vb_f rfl ?_ | refine vb_t ‹_› ?_ | refine vb_f ‹_› ?_ | refine vor_l ?_ | fail) <;> conv => whnf)
        refine vloop_cnt (α := Unit) ls.length (fun _ _ => True) (fun k _ => [(10, I (nmC (ls.drop k) : Int)), (104, I (k : Int))]) () trivial rfl ?_
        intro k _ hk _
        rcases Nat.lt_or_ge k ls.length with hlt | hge
        · obtain ⟨x, hx⟩ := get_in hlt
          have hgx := iget_map (f := lnRow) hx
          have hlx := lt_len (f := lnRow) hlt
          have hd := nmC_drop hx
          have hdl : nmC (ls.drop k) ≤ nmC ls := by
            have := nmC_append (ls.take k) (ls.drop k)
            rw [List.take_append_drop] at this
            omega
          have n1 : iadd .i64 (k : Int) (Int.ofNat 1) = ((k + 1 : Nat) : Int) := by rw [iadd64 (by rw [o1']; omega) (by rw [o1']; omega), o1']; omega
          rcases x with _ | ⟨c, r⟩
          · have e : isub .i64 (nmC (ls.drop k) : Int) (0 : Int) = (nmC (ls.drop (k + 1)) : Int) := by
              rw [isub64 (by omega) (by omega), hd]; simp
            conv => whnf
            repeat' ((first | refine vb_t rfl ?_ | refine vb_f rfl ?_ | refine vb_t ‹_› ?_ | refine vb_f ‹_› ?_ | refine vo_i hgx ?_ | refine vor_l ?_ | fail) <;> conv => whnf)
            exact ⟨⟨(k + 1, ()), (by omega), trivial⟩, (by simp only; omega), (by repeat' (first | exact rfl | exact slot_eq (I_eq e) | exact slot_eq (I_eq n1) | refine cons_eq ?_ ?_)), rfl, rfl, rfl⟩
          · have e : isub .i64 (nmC (ls.drop k) : Int) (((c :: r).map wsRow).length : Int) = (nmC (ls.drop (k + 1)) : Int) := by
              rw [List.length_map, isub64 (by omega) (by omega), hd]; omega
            conv => whnf
            repeat' ((first | refine vb_t rfl ?_ | refine vb_f rfl ?_ | refine vb_t ‹_› ?_ | refine vb_f ‹_› ?_ | refine vo_i hgx ?_ | refine vor_l ?_ | fail) <;> conv => whnf)
            exact ⟨⟨(k + 1, ()), (by omega), trivial⟩, (by simp only; omega), (by repeat' (first | exact rfl | exact slot_eq (I_eq e) | exact slot_eq (I_eq n1) | refine cons_eq ?_ ?_)), rfl, rfl, rfl⟩
        · obtain rfl : k = ls.length := by omega
          have hlx := nlt_len (f := lnRow) (Nat.not_lt.2 (Nat.le_refl ls.length))
          have hz : nmC (ls.drop ls.length) = 0 := by rw [List.drop_length]; rfl
          have f1 : ieq ((([] : List Trk).length : Nat) : Int) ((([] : List Trk).map trkRow).length : Int) = true := by rw [ieq_t, List.length_map]
          have f2 : ieq ((ls.map lnRow).length : Int) (iadd .i64 ((([] : List Trk).length : Nat) : Int) (Int.ofNat 1)) = true := by
            rw [ieq_t, List.length_map, iadd64 (by rw [o1']; omega) (by rw [o1']; omega), o1', hls]; omega
          have f3 : ieq (nmC (ls.drop ls.length) : Int) (Int.ofNat 0) = true := by rw [hz, ieq_t]; rfl
          conv => whnf
          repeat' ((first | refine vb_t rfl ?_ | refine vb_f rfl ?_ | refine vb_t ‹_› ?_ | refine vb_f ‹_› ?_ | refine vpur_i lives15_ok ?_ | refine vor_l ?_ | fail) <;> conv => whnf)
          exact ⟨rfl, rfl⟩
    · refine pur_code code8_ok ?_
      conv => whnf
      repeat' ((first | refine vb_t rfl ?_ | refine vb_f rfl ?_ | refine vb_t ‹_› ?_ | refine vb_f ‹_› ?_ | refine vpur_i hL ?_ | refine vpur_i hA ?_ | refine vor_l ?_ | fail) <;> conv => whnf)
      refine vloop_cnt (α := Unit) l.length (fun _ _ => True) (fun k _ => [(9, I ((axF n (l.take k)).1.ts.length : Int)), (10, I (nmC (axF n (l.take k)).1.ls : Int)), (45, I (k : Int))]) () trivial rfl ?_
      intro k _ hk _
      rcases Nat.lt_or_ge k l.length with hlt | hge
      · obtain ⟨p, hp⟩ := get_in hlt
        have hg := iget_map (f := pcRow) hp
        have hl := lt_len (f := pcRow) hlt
        have hm := List.mem_of_getElem? hp
        obtain ⟨hLp, hLi, hil, hRk⟩ := hgl p hm
        have hap := hal p hm
        have hS : (axF n (l.take (k + 1))).1 = (axP n (axF n (l.take k)) p).1 := by rw [axF_succ hp]
        have hNk := hNB k (by omega)
        have hPk := hpreF (k + 1)
        rw [axF_succ hp] at hPk
        have hPo := hLp.1
        by_cases hk12 : p.kind = 1 ∨ p.kind = 2
        · have hc0 := count0 hap hk12
          have hit : itP n p = repL 1 [p] := if_pos hk12
          have hx : (axP n (axF n (l.take k)) p).1 = (repL 1 [p]).foldl layQ (axF n (l.take k)).1 := by unfold axP; rw [hit]
          rw [hx] at hS hPk
          have hLI : ∀ q ∈ [p], LayP q := fun q hq => by rw [List.mem_singleton.1 hq]; exact hLp
          generalize (axF n (l.take k)).1 = Sk at *
          clear hx hit hgl hNB hpreF hal hend
          cases hPo with
          | @mk kd vn names t cn vi inner hvn hvi hin =>
          obtain ⟨a1, a2, a3, a4, a5, a6, a7⟩ := t
          simp only [Pc.kind] at hk12
          have w0 : ilt ((0 : Nat) : Int) (Int.ofNat 1) = true := by rw [ilt_t]; decide
          have w1 : ilt ((1 : Nat) : Int) (Int.ofNat 1) = false := by rw [ilt_f]; decide
          by_cases hk1 : kd = 1
          · have q1 : ieq kd (Int.ofNat 1) = true := by rw [ieq_t]; exact hk1
            conv => whnf
            repeat' ((first | refine vb_t rfl ?_ | refine vb_f rfl ?_ | refine vb_t ‹_› ?_ | refine vb_f ‹_› ?_ | refine vo_i hg ?_ | refine vor_l ?_ | fail) <;> conv => whnf)
            refine vloop_cnt (α := Unit) 1 (fun _ _ => True) (fun j _ => [(9, I (((repL j [Pc.mk kd vn names ⟨a1, a2, a3, a4, a5, a6, a7⟩ cn vi inner]).foldl layQ Sk).ts.length : Int)), (10, I (nmC ((repL j [Pc.mk kd vn names ⟨a1, a2, a3, a4, a5, a6, a7⟩ cn vi inner]).foldl layQ Sk).ls : Int)), (65, I (j : Int))]) () trivial rfl ?_
            intro j _ hj _
            rcases Nat.lt_or_ge j 1 with hj1 | hj1
            · obtain rfl : j = 0 := by omega
              conv => whnf
              repeat' ((first | refine vb_t rfl ?_ | refine vb_f rfl ?_ | refine vb_t ‹_› ?_ | refine vb_f ‹_› ?_ | refine vor_l ?_ | fail) <;> conv => whnf)
              refine vloop_cnt (α := Unit) 1 (fun _ _ => True) (fun i _ => [(9, I ((([Pc.mk kd vn names ⟨a1, a2, a3, a4, a5, a6, a7⟩ cn vi inner].take i).foldl layQ Sk).ts.length : Int)), (10, I (nmC (([Pc.mk kd vn names ⟨a1, a2, a3, a4, a5, a6, a7⟩ cn vi inner].take i).foldl layQ Sk).ls : Int)), (69, I (i : Int))]) () trivial rfl ?_
              intro i _ hi _
              rcases Nat.lt_or_ge i 1 with hi1 | hi1
              · obtain rfl : i = 0 := by omega
                have hlq : ilt ((0 : Nat) : Int) (((1 : Nat) : Int) - ((0 : Nat) : Int)) = true := by rw [ilt_t]; decide
                have hgq : iget (List.drop 0 (List.take 1 [pcRow (Pc.mk kd vn names ⟨a1, a2, a3, a4, a5, a6, a7⟩ cn vi inner)])) ((0 : Nat) : Int) = some (pcRow (Pc.mk kd vn names ⟨a1, a2, a3, a4, a5, a6, a7⟩ cn vi inner)) := iget_t rfl
                have hgr : ([pcRow (Pc.mk kd vn names ⟨a1, a2, a3, a4, a5, a6, a7⟩ cn vi inner)] : List (List DV))[0 + (((0 : Nat) : Int)).toNat]? = some (pcRow (Pc.mk kd vn names ⟨a1, a2, a3, a4, a5, a6, a7⟩ cn vi inner)) := rfl
                have hLq := hLp
                have hPq : Pre (layQ Sk (Pc.mk kd vn names ⟨a1, a2, a3, a4, a5, a6, a7⟩ cn vi inner)) ⟨ls, (t1 :: ts), gl, gt⟩ := hPk
                have n1 : iadd .i64 ((0 : Nat) : Int) (Int.ofNat 1) = ((1 : Nat) : Int) := by rw [iadd64 (by decide) (by decide)]; rfl
                have hNq := hNk
                obtain ⟨hn0, hn16⟩ := hLq.2 hk1
                obtain ⟨g1, g2⟩ := lay_names hNq.1 (show (Pc.mk kd vn names ⟨a1, a2, a3, a4, a5, a6, a7⟩ cn vi inner).kind = 1 from hk1)
                rcases hvn with ⟨rfl, hvn⟩ | rfl
                · exact (hn0 (List.map_eq_nil_iff.1 hvn)).elim
                simp only [Pc.names] at hn16 g1
                have e10 : iadd .i64 (nmC (Sk).ls : Int) ((names.map wsRow).length : Int) = (nmC (layQ Sk (Pc.mk kd (.sl 1 (names.map wsRow)) names ⟨a1, a2, a3, a4, a5, a6, a7⟩ cn vi inner)).ls : Int) := by
                  have := hNq.2
                  rw [g1, List.length_map, iadd64 (by omega) (by omega)]; omega
                have e9 : ((Sk).ts.length : Int) = ((layQ Sk (Pc.mk kd (.sl 1 (names.map wsRow)) names ⟨a1, a2, a3, a4, a5, a6, a7⟩ cn vi inner)).ts.length : Int) := by rw [g2]
                conv => whnf
                repeat' ((first | refine vb_t rfl ?_ | refine vb_f rfl ?_ | refine vb_t ‹_› ?_ | refine vb_f ‹_› ?_ | refine vo_i hgq ?_ | refine vo_i hgr ?_ | refine vor_l ?_ | fail) <;> conv => whnf)
                exact ⟨⟨(1, ()), (by omega), trivial⟩, (by simp only; omega), (by repeat' (first | exact rfl | exact slot_eq (I_eq (e9.trans rfl)) | exact slot_eq (I_eq (e10.trans rfl)) | exact slot_eq (I_eq n1) | refine cons_eq ?_ ?_)), rfl, rfl, rfl⟩
              · obtain rfl : i = 1 := by omega
                have hlq : ilt ((1 : Nat) : Int) (((1 : Nat) : Int) - ((0 : Nat) : Int)) = false := by rw [ilt_f]; decide
                have n1 : iadd .i64 ((0 : Nat) : Int) (Int.ofNat 1) = ((1 : Nat) : Int) := by rw [iadd64 (by decide) (by decide)]; rfl
                conv => whnf
                repeat' ((first | refine vb_t rfl ?_ | refine vb_f rfl ?_ | refine vb_t ‹_› ?_ | refine vb_f ‹_› ?_ | refine vor_l ?_ | fail) <;> conv => whnf)
                exact ⟨⟨(1, ()), (by omega), trivial⟩, (by simp only; omega), (by repeat' (first | exact rfl | exact slot_eq (I_eq n1) | refine cons_eq ?_ ?_)), rfl, rfl, rfl⟩
            · obtain rfl : j = 1 := by omega
              conv => whnf
              repeat' ((first | refine vb_t rfl ?_ | refine vb_f rfl ?_ | refine vb_t ‹_› ?_ | refine vb_f ‹_› ?_ | refine vor_l ?_ | fail) <;> conv => whnf)
              exact ⟨⟨(k + 1, ()), (by omega), trivial⟩, (by simp only; omega), (by repeat' (first | exact rfl | exact slot_eq (I_eq (by rw [hS])) | exact slot_eq (I_eq (iadd_one (by omega))) | refine cons_eq ?_ ?_)), rfl, rfl, rfl⟩
          · have q1 : ieq kd (Int.ofNat 1) = false := by rw [ieq_f]; exact hk1
            have q2 : ieq kd (Int.ofNat 2) = true := by rw [ieq_t]; exact hk12.resolve_left hk1
            conv => whnf
            repeat' ((first | refine vb_t rfl ?_ | refine vb_f rfl ?_ | refine vb_t ‹_› ?_ | refine vb_f ‹_› ?_ | refine vo_i hg ?_ | refine vor_l ?_ | fail) <;> conv => whnf)
            refine vloop_cnt (α := Unit) 1 (fun _ _ => True) (fun j _ => [(9, I (((repL j [Pc.mk kd vn names ⟨a1, a2, a3, a4, a5, a6, a7⟩ cn vi inner]).foldl layQ Sk).ts.length : Int)), (10, I (nmC ((repL j [Pc.mk kd vn names ⟨a1, a2, a3, a4, a5, a6, a7⟩ cn vi inner]).foldl layQ Sk).ls : Int)), (65, I (j : Int))]) () trivial rfl ?_
            intro j _ hj _
            rcases Nat.lt_or_ge j 1 with hj1 | hj1
            · obtain rfl : j = 0 := by omega
              conv => whnf
              repeat' ((first | refine vb_t rfl ?_ | refine vb_f rfl ?_ | refine vb_t ‹_› ?_ | refine vb_f ‹_› ?_ | refine vor_l ?_ | fail) <;> conv => whnf)
              refine vloop_cnt (α := Unit) 1 (fun _ _ => True) (fun i _ => [(9, I ((([Pc.mk kd vn names ⟨a1, a2, a3, a4, a5, a6, a7⟩ cn vi inner].take i).foldl layQ Sk).ts.length : Int)), (10, I (nmC (([Pc.mk kd vn names ⟨a1, a2, a3, a4, a5, a6, a7⟩ cn vi inner].take i).foldl layQ Sk).ls : Int)), (69, I (i : Int))]) () trivial rfl ?_
              intro i _ hi _
              rcases Nat.lt_or_ge i 1 with hi1 | hi1
              · obtain rfl : i = 0 := by omega
                have hlq : ilt ((0 : Nat) : Int) (((1 : Nat) : Int) - ((0 : Nat) : Int)) = true := by rw [ilt_t]; decide
                have hgq : iget (List.drop 0 (List.take 1 [pcRow (Pc.mk kd vn names ⟨a1, a2, a3, a4, a5, a6, a7⟩ cn vi inner)])) ((0 : Nat) : Int) = some (pcRow (Pc.mk kd vn names ⟨a1, a2, a3, a4, a5, a6, a7⟩ cn vi inner)) := iget_t rfl
                have hgr : ([pcRow (Pc.mk kd vn names ⟨a1, a2, a3, a4, a5, a6, a7⟩ cn vi inner)] : List (List DV))[0 + (((0 : Nat) : Int)).toNat]? = some (pcRow (Pc.mk kd vn names ⟨a1, a2, a3, a4, a5, a6, a7⟩ cn vi inner)) := rfl
                have hLq := hLp
                have hPq : Pre (layQ Sk (Pc.mk kd vn names ⟨a1, a2, a3, a4, a5, a6, a7⟩ cn vi inner)) ⟨ls, (t1 :: ts), gl, gt⟩ := hPk
                have n1 : iadd .i64 ((0 : Nat) : Int) (Int.ofNat 1) = ((1 : Nat) : Int) := by rw [iadd64 (by decide) (by decide)]; rfl
                have hNq := hNk
                obtain ⟨g1, g2⟩ := lay_trk (s := Sk) (show (Pc.mk kd vn names ⟨a1, a2, a3, a4, a5, a6, a7⟩ cn vi inner).kind ≠ 1 from hk1)
                have hget : (t1 :: ts)[(Sk).ts.length]? = some ⟨a1, a2, a3, a4, a5, a6, a7⟩ := pre_get (a := (Sk).ts) (t := ⟨a1, a2, a3, a4, a5, a6, a7⟩) (by have h := hPq; unfold Pre at h; rw [g2] at h; exact h)
                have hltt := (List.getElem?_eq_some_iff.1 hget).1
                have hgi := iget_map (f := trkRow) hget
                have r1 : ile (((t1 :: ts).map trkRow).length : Int) ((Sk).ts.length : Int) = false := by rw [ile_f, List.length_map]; omega
                have e9 : iadd .i64 ((Sk).ts.length : Int) (Int.ofNat 1) = ((layQ Sk (Pc.mk kd vn names ⟨a1, a2, a3, a4, a5, a6, a7⟩ cn vi inner)).ts.length : Int) := by
                  rw [g2, iadd64 (by rw [o1']; omega) (by rw [o1']; omega), o1']; simp
                have e10 : (nmC (Sk).ls : Int) = (nmC (layQ Sk (Pc.mk kd vn names ⟨a1, a2, a3, a4, a5, a6, a7⟩ cn vi inner)).ls : Int) := by rw [g1]
                conv => whnf
                repeat' ((first | refine vb_t rfl ?_ | refine vb_f rfl ?_ | refine vb_t ‹_› ?_ | refine vb_f ‹_› ?_ | refine vo_i hgq ?_ | refine vo_i hgr ?_ | refine vo_i hgi ?_ | refine vb_f (by simp only [ieqs]; cases a5 <;> rfl) ?_ | refine vor_l ?_ | fail) <;> conv => whnf)
                exact ⟨⟨(1, ()), (by omega), trivial⟩, (by simp only; omega), (by repeat' (first | exact rfl | exact slot_eq (I_eq (e9.trans rfl)) | exact slot_eq (I_eq (e10.trans rfl)) | exact slot_eq (I_eq n1) | refine cons_eq ?_ ?_)), rfl, rfl, rfl⟩
              · obtain rfl : i = 1 := by omega
                have hlq : ilt ((1 : Nat) : Int) (((1 : Nat) : Int) - ((0 : Nat) : Int)) = false := by rw [ilt_f]; decide
                have n1 : iadd .i64 ((0 : Nat) : Int) (Int.ofNat 1) = ((1 : Nat) : Int) := by rw [iadd64 (by decide) (by decide)]; rfl
                conv => whnf
                repeat' ((first | refine vb_t rfl ?_ | refine vb_f rfl ?_ | refine vb_t ‹_› ?_ | refine vb_f ‹_› ?_ | refine vor_l ?_ | fail) <;> conv => whnf)
                exact ⟨⟨(1, ()), (by omega), trivial⟩, (by simp only; omega), (by repeat' (first | exact rfl | exact slot_eq (I_eq n1) | refine cons_eq ?_ ?_)), rfl, rfl, rfl⟩
            · obtain rfl : j = 1 := by omega
              conv => whnf
              repeat' ((first | refine vb_t rfl ?_ | refine vb_f rfl ?_ | refine vb_t ‹_› ?_ | refine vb_f ‹_› ?_ | refine vor_l ?_ | fail) <;> conv => whnf)
              exact ⟨⟨(k + 1, ()), (by omega), trivial⟩, (by simp only; omega), (by repeat' (first | exact rfl | exact slot_eq (I_eq (by rw [hS])) | exact slot_eq (I_eq (iadd_one (by omega))) | refine cons_eq ?_ ?_)), rfl, rfl, rfl⟩
        · obtain ⟨hRep, hTr⟩ := hRk hk12
          have hit : itP n p = repL (tmN n p) p.inner := if_neg hk12
          have hx : (axP n (axF n (l.take k)) p).1 = (repL (tmN n p) p.inner).foldl layQ (axF n (l.take k)).1 := by unfold axP; rw [hit]
          rw [hx] at hS hPk
          have htm := tmN_le hap (show n ≤ 10000 by omega)
          have hmx : imax (Int.ofNat 1) p.count = (tmN n p : Int) := by
            unfold tmN
            rw [imax_t, o1']
            rcases hap with ⟨h1, _⟩ | ⟨h1, _⟩ | ⟨h1, h2, _⟩ | ⟨h1, _, _, h2⟩
            · exact (hk12 (.inl h1)).elim
            · exact (hk12 (.inr h1)).elim
            · rw [if_pos h1]; omega
            · have := hfill ⟨p, hm, h1⟩
              rw [if_neg (by unfold AutoK at h1; omega)]; omega
          have hnin : p.inner ≠ [] := fun h => by obtain ⟨q, hq, _⟩ := hTr; rw [h] at hq; cases hq
          generalize tmN n p = m at *
          generalize (axF n (l.take k)).1 = Sk at *
          clear hx hit hgl hNB hpreF hal hend hTr hap hRk
          cases hPo with
          | @mk kdp vnp namesp tp cnp vip IN hvnp hvip hinp =>
          generalize hKD : (Pc.mk kdp vnp namesp tp cnp vip IN).kind = KD at *
          generalize hIN : (Pc.mk kdp vnp namesp tp cnp vip IN).inner = IN' at *
          generalize hCN : (Pc.mk kdp vnp namesp tp cnp vip IN).count = CN at *
          obtain rfl : kdp = KD := hKD
          obtain rfl : IN = IN' := hIN
          obtain rfl : cnp = CN := hCN
          rcases hvip with ⟨rfl, hvip⟩ | rfl
          · exact (hnin (List.map_eq_nil_iff.1 hvip)).elim
          have q1 : ieq kdp (Int.ofNat 1) = false := by rw [ieq_f]; exact fun e => hk12 (.inl e)
          have q2 : ieq kdp (Int.ofNat 2) = false := by rw [ieq_f]; exact fun e => hk12 (.inr e)
          conv => whnf
          repeat' ((first | refine vb_t rfl ?_ | refine vb_f rfl ?_ | refine vb_t ‹_› ?_ | refine vb_f ‹_› ?_ | refine vo_i hg ?_ | refine vor_l ?_ | fail) <;> conv => whnf)
          refine vloop_cnt (α := Unit) m (fun _ _ => True) (fun j _ => [(9, I (((repL j IN).foldl layQ Sk).ts.length : Int)), (10, I (nmC ((repL j IN).foldl layQ Sk).ls : Int)), (65, I (j : Int))]) () trivial rfl ?_
          intro j _ hj _
          have hSS := hS
          clear q1 q2 hg hl hS
          rcases Nat.lt_or_ge j m with hjm | hjm
          · have wl : ilt (j : Int) (imax (Int.ofNat 1) cnp) = true := by rw [hmx, ilt_t]; omega
            have hNj : NmB (2560000 * k + 2560000) ((repL j IN).foldl layQ Sk) := nmB_mono (by rw [repL_len]; have := Nat.mul_le_mul (show j ≤ 10000 by omega) hil; omega) (nmB_fold (L := repL j IN) (fun q hq => hLi q (repL_mem hq)) hNk)
            have hPj : Pre (IN.foldl layQ ((repL j IN).foldl layQ Sk)) ⟨ls, (t1 :: ts), gl, gt⟩ := by
              rw [← repL_foldl]
              exact List.IsPrefix.trans (pre_rep hjm) hPk
            have hsj : (repL (j + 1) IN).foldl layQ Sk = IN.foldl layQ ((repL j IN).foldl layQ Sk) := repL_foldl
            conv => whnf
            repeat' ((first | refine vb_t rfl ?_ | refine vb_f rfl ?_ | refine vb_t ‹_› ?_ | refine vb_f ‹_› ?_ | refine vor_l ?_ | fail) <;> conv => whnf)
            refine vloop_cnt (α := Unit) IN.length (fun _ _ => True) (fun i _ => [(9, I (((IN.take i).foldl layQ ((repL j IN).foldl layQ Sk)).ts.length : Int)), (10, I (nmC ((IN.take i).foldl layQ ((repL j IN).foldl layQ Sk)).ls : Int)), (69, I (i : Int))]) () trivial rfl ?_
            intro i _ hi _
            rcases Nat.lt_or_ge i IN.length with hil2 | hil2
            · obtain ⟨q, hq⟩ := get_in hil2
              have hgq := iget_map (f := pcRow) hq
              have hlq := lt_len (f := pcRow) hil2
              have hLq := hLi q (List.mem_of_getElem? hq)
              have hS2 := foldl_succ (f := layQ) (s := (repL j IN).foldl layQ Sk) hq
              have hPq : Pre (layQ ((IN.take i).foldl layQ ((repL j IN).foldl layQ Sk)) q) ⟨ls, (t1 :: ts), gl, gt⟩ := by
                rw [← hS2]
                exact List.IsPrefix.trans pre_take hPj
              have hNq : NmB (2560000 * k + 2560000 + 256) ((IN.take i).foldl layQ ((repL j IN).foldl layQ Sk)) := nmB_mono (by rw [List.length_take]; omega) (nmB_fold (L := IN.take i) (fun q hq => hLi q (List.mem_of_mem_take hq)) hNj)
              clear hPj hPk hNj hsj hq
              generalize (IN.take i).foldl layQ ((repL j IN).foldl layQ Sk) = S at *
              have hPq1 := hLq.1
              have n1 : iadd .i64 (i : Int) (Int.ofNat 1) = ((i + 1 : Nat) : Int) := by rw [iadd64 (by rw [o1']; omega) (by rw [o1']; omega), o1']; omega
              cases hPq1 with
              | @mk kd vn names t cn vi inner hvn hvi hin =>
              obtain ⟨a1, a2, a3, a4, a5, a6, a7⟩ := t
              have hgr := hgq
              by_cases hk1 : kd = 1
              · have q1 : ieq kd (Int.ofNat 1) = true := by rw [ieq_t]; exact hk1
                obtain ⟨hn0, hn16⟩ := hLq.2 hk1
                obtain ⟨g1, g2⟩ := lay_names hNq.1 (show (Pc.mk kd vn names ⟨a1, a2, a3, a4, a5, a6, a7⟩ cn vi inner).kind = 1 from hk1)
                rcases hvn with ⟨rfl, hvn⟩ | rfl
                · exact (hn0 (List.map_eq_nil_iff.1 hvn)).elim
                simp only [Pc.names] at hn16 g1
                have e10 : iadd .i64 (nmC (S).ls : Int) ((names.map wsRow).length : Int) = (nmC (layQ S (Pc.mk kd (.sl 1 (names.map wsRow)) names ⟨a1, a2, a3, a4, a5, a6, a7⟩ cn vi inner)).ls : Int) := by
                  have := hNq.2
                  rw [g1, List.length_map, iadd64 (by omega) (by omega)]; omega
                have e9 : ((S).ts.length : Int) = ((layQ S (Pc.mk kd (.sl 1 (names.map wsRow)) names ⟨a1, a2, a3, a4, a5, a6, a7⟩ cn vi inner)).ts.length : Int) := by rw [g2]
                conv => whnf
                repeat' ((first | refine vb_t rfl ?_ | refine vb_f rfl ?_ | refine vb_t ‹_› ?_ | refine vb_f ‹_› ?_ | refine vo_i hgq ?_ | refine vo_i hgr ?_ | refine vor_l ?_ | fail) <;> conv => whnf)
                exact ⟨⟨(i + 1, ()), (by omega), trivial⟩, (by simp only; omega), (by repeat' (first | exact rfl | exact slot_eq (I_eq (e9.trans (by rw [hS2]))) | exact slot_eq (I_eq (e10.trans (by rw [hS2]))) | exact slot_eq (I_eq n1) | refine cons_eq ?_ ?_)), rfl, rfl, rfl⟩
              · have q1 : ieq kd (Int.ofNat 1) = false := by rw [ieq_f]; exact hk1
                obtain ⟨g1, g2⟩ := lay_trk (s := S) (show (Pc.mk kd vn names ⟨a1, a2, a3, a4, a5, a6, a7⟩ cn vi inner).kind ≠ 1 from hk1)
                have hget : (t1 :: ts)[(S).ts.length]? = some ⟨a1, a2, a3, a4, a5, a6, a7⟩ := pre_get (a := (S).ts) (t := ⟨a1, a2, a3, a4, a5, a6, a7⟩) (by have h := hPq; unfold Pre at h; rw [g2] at h; exact h)
                have hltt := (List.getElem?_eq_some_iff.1 hget).1
                have hgi := iget_map (f := trkRow) hget
                have r1 : ile (((t1 :: ts).map trkRow).length : Int) ((S).ts.length : Int) = false := by rw [ile_f, List.length_map]; omega
                have e9 : iadd .i64 ((S).ts.length : Int) (Int.ofNat 1) = ((layQ S (Pc.mk kd vn names ⟨a1, a2, a3, a4, a5, a6, a7⟩ cn vi inner)).ts.length : Int) := by
                  rw [g2, iadd64 (by rw [o1']; omega) (by rw [o1']; omega), o1']; simp
                have e10 : (nmC (S).ls : Int) = (nmC (layQ S (Pc.mk kd vn names ⟨a1, a2, a3, a4, a5, a6, a7⟩ cn vi inner)).ls : Int) := by rw [g1]
                conv => whnf
                repeat' ((first | refine vb_t rfl ?_ | refine vb_f rfl ?_ | refine vb_t ‹_› ?_ | refine vb_f ‹_› ?_ | refine vo_i hgq ?_ | refine vo_i hgr ?_ | refine vo_i hgi ?_ | refine vb_f (by simp only [ieqs]; cases a5 <;> rfl) ?_ | refine vor_l ?_ | fail) <;> conv => whnf)
                exact ⟨⟨(i + 1, ()), (by omega), trivial⟩, (by simp only; omega), (by repeat' (first | exact rfl | exact slot_eq (I_eq (e9.trans (by rw [hS2]))) | exact slot_eq (I_eq (e10.trans (by rw [hS2]))) | exact slot_eq (I_eq n1) | refine cons_eq ?_ ?_)), rfl, rfl, rfl⟩
            · have hlq := nlt_len (f := pcRow) (Nat.not_lt.2 hil2)
              have hjs : (IN.take i).foldl layQ ((repL j IN).foldl layQ Sk) = (repL (j + 1) IN).foldl layQ Sk := by rw [hsj, List.take_of_length_le hil2]
              have n1 : iadd .i64 (j : Int) (Int.ofNat 1) = ((j + 1 : Nat) : Int) := by rw [iadd64 (by rw [o1']; omega) (by rw [o1']; omega), o1']; omega
              conv => whnf
              repeat' ((first | refine vb_t rfl ?_ | refine vb_f rfl ?_ | refine vb_t ‹_› ?_ | refine vb_f ‹_› ?_ | refine vor_l ?_ | fail) <;> conv => whnf)
              exact ⟨⟨(j + 1, ()), (by omega), trivial⟩, (by simp only; omega), (by repeat' (first | exact rfl | exact slot_eq (I_eq (by rw [hjs])) | exact slot_eq (I_eq n1) | refine cons_eq ?_ ?_)), rfl, rfl, rfl⟩
          · obtain rfl : j = m := by omega
            have wl : ilt (j : Int) (imax (Int.ofNat 1) cnp) = false := by rw [hmx, ilt_f]; omega
            conv => whnf
            repeat' ((first | refine vb_t rfl ?_ | refine vb_f rfl ?_ | refine vb_t ‹_› ?_ | refine vb_f ‹_› ?_ | refine vor_l ?_ | fail) <;> conv => whnf)
            exact ⟨⟨(k + 1, ()), (by omega), trivial⟩, (by simp only; omega), (by repeat' (first | exact rfl | exact slot_eq (I_eq (by rw [hSS])) | exact slot_eq (I_eq (iadd_one (by omega))) | refine cons_eq ?_ ?_)), rfl, rfl, rfl⟩
      · obtain rfl : k = l.length := by omega
        have hl := nlt_len (f := pcRow) (Nat.not_lt.2 (Nat.le_refl l.length))
        show vC F0 _ _ (look (updL _ [(9, I ((axF n (l.take l.length)).1.ts.length : Int)), (10, I (nmC (axF n (l.take l.length)).1.ls : Int)), (45, I (l.length : Int))])) _ _ _ _
        rw [hend]
        conv => whnf
        repeat' ((first | refine vb_t rfl ?_ | refine vb_f rfl ?_ | refine vb_t ‹_› ?_ | refine vb_f ‹_› ?_ | refine vor_l ?_ | fail) <;> conv => whnf)
        refine vloop_cnt (α := Unit) ls.length (fun _ _ => True) (fun k _ => [(10, I (nmC (ls.drop k) : Int)), (104, I (k : Int))]) () trivial rfl ?_
        intro k _ hk _
        rcases Nat.lt_or_ge k ls.length with hlt | hge
        · obtain ⟨x, hx⟩ := get_in hlt
          have hgx := iget_map (f := lnRow) hx
          have hlx := lt_len (f := lnRow) hlt
          have hd := nmC_drop hx
          have hdl : nmC (ls.drop k) ≤ nmC ls := by
            have := nmC_append (ls.take k) (ls.drop k)
            rw [List.take_append_drop] at this
            omega
          have n1 : iadd .i64 (k : Int) (Int.ofNat 1) = ((k + 1 : Nat) : Int) := by rw [iadd64 (by rw [o1']; omega) (by rw [o1']; omega), o1']; omega
          rcases x with _ | ⟨c, r⟩
          · have e : isub .i64 (nmC (ls.drop k) : Int) (0 : Int) = (nmC (ls.drop (k + 1)) : Int) := by
              rw [isub64 (by omega) (by omega), hd]; simp
            conv => whnf
            repeat' ((first | refine vb_t rfl ?_ | refine vb_f rfl ?_ | refine vb_t ‹_› ?_ | refine vb_f ‹_› ?_ | refine vo_i hgx ?_ | refine vor_l ?_ | fail) <;> conv => whnf)
            exact ⟨⟨(k + 1, ()), (by omega), trivial⟩, (by simp only; omega), (by repeat' (first | exact rfl | exact slot_eq (I_eq e) | exact slot_eq (I_eq n1) | refine cons_eq ?_ ?_)), rfl, rfl, rfl⟩
          · have e : isub .i64 (nmC (ls.drop k) : Int) (((c :: r).map wsRow).length : Int) = (nmC (ls.drop (k + 1)) : Int) := by
              rw [List.length_map, isub64 (by omega) (by omega), hd]; omega
            conv => whnf
            repeat' ((first | refine vb_t rfl ?_ | refine vb_f rfl ?_ | refine vb_t ‹_› ?_ | refine vb_f ‹_› ?_ | refine vo_i hgx ?_ | refine vor_l ?_ | fail) <;> conv => whnf)
            exact ⟨⟨(k + 1, ()), (by omega), trivial⟩, (by simp only; omega), (by repeat' (first | exact rfl | exact slot_eq (I_eq e) | exact slot_eq (I_eq n1) | refine cons_eq ?_ ?_)), rfl, rfl, rfl⟩
        · obtain rfl : k = ls.length := by omega
          have hlx := nlt_len (f := lnRow) (Nat.not_lt.2 (Nat.le_refl ls.length))
          have hz : nmC (ls.drop ls.length) = 0 := by rw [List.drop_length]; rfl
          have f1 : ieq ((((t1 :: ts) : List Trk).length : Nat) : Int) ((((t1 :: ts) : List Trk).map trkRow).length : Int) = true := by rw [ieq_t, List.length_map]
          have f2 : ieq ((ls.map lnRow).length : Int) (iadd .i64 ((((t1 :: ts) : List Trk).length : Nat) : Int) (Int.ofNat 1)) = true := by
            rw [ieq_t, List.length_map, iadd64 (by rw [o1']; omega) (by rw [o1']; omega), o1', hls]; omega
          have f3 : ieq (nmC (ls.drop ls.length) : Int) (Int.ofNat 0) = true := by rw [hz, ieq_t]; rfl
          conv => whnf
          repeat' ((first | refine vb_t rfl ?_ | refine vb_f rfl ?_ | refine vb_t ‹_› ?_ | refine vb_f ‹_› ?_ | refine vpur_i lives15_ok ?_ | refine vor_l ?_ | fail) <;> conv => whnf)
          exact ⟨rfl, rfl⟩
  · rw [if_neg hle] at hA
    exact many_err _ _ _ _ hL hA (by decide)
theorem axis_nil (size gap : Int) (b : Bool) (n : Int) (hC : Pur F0 22 [.d .nilsl, I size, B b, I gap] [] .no (.ret (.tup [I n, I 0])) .no) :
    Pur F0 24 [.d .nilsl, I size, B b, I gap] [] .no (.ret (.tup [.agg [.d (.sl 1 [[.nilsl]]), .d .nilsl, I 0, I 0], I 0])) .no := by
  have z : (!ieq (0 : Int) (Int.ofNat 0)) = false := by rw [Bool.not_eq_false', ieq_t]; rfl
  have h00 : ilt (Int.ofNat 0) (0 : Int) = false := by rw [ilt_f]; decide
  refine pur_code code24_ok ?_
  conv => whnf
  repeat' ((first | refine vb_t rfl ?_ | refine vb_f rfl ?_ | refine vb_t ‹_› ?_ | refine vb_f ‹_› ?_ | refine vpur_i hC ?_ | refine vor_l ?_ | fail) <;> conv => whnf)
  refine vloop_once ?_
  conv => whnf
  repeat' ((first | refine vb_t rfl ?_ | refine vb_f rfl ?_ | refine vb_t ‹_› ?_ | refine vb_f ‹_› ?_ | refine vor_l ?_ | fail) <;> conv => whnf)
  exact ⟨rfl, rfl⟩
theorem many_nil (size gap : Int) (hA : Pur F0 24 [.d .nilsl, I size, B false, I gap] [] .no (.ret (.tup [.agg [.d (.sl 1 [[.nilsl]]), .d .nilsl, I 0, I 0], I 0])) .no) :
    Pur F0 8 [.d .nilsl, I size, I gap] [] .no (.ret (B true)) .no := by
  have z : (!ieq (0 : Int) (Int.ofNat 0)) = false := by rw [Bool.not_eq_false', ieq_t]; rfl
  have hx : (!true) = false := rfl
  have h00 : ilt (Int.ofNat 0) (0 : Int) = false := by rw [ilt_f]; decide
  have h01 : ilt (Int.ofNat 0) (Int.ofNat 1) = true := by rw [ilt_t]; decide
  have n1 : iadd .i64 (Int.ofNat 0) (Int.ofNat 1) = Int.ofNat 1 := by rw [iadd64 (by decide) (by decide)]; rfl
  have h11 : ilt (iadd .i64 (Int.ofNat 0) (Int.ofNat 1)) (Int.ofNat 1) = false := by rw [n1, ilt_f]; decide
  have g1 : iget [[DV.nilsl]] (Int.ofNat 0) = some [DV.nilsl] := iget_t rfl
  have s0 : isub .i64 (Int.ofNat 0) (0 : Int) = 0 := by rw [isub64 (by decide) (by decide)]; rfl
  have f1 : ieq (Int.ofNat 0) (0 : Int) = true := by rw [ieq_t]; rfl
  have f2 : ieq (Int.ofNat 1) (iadd .i64 (Int.ofNat 0) (Int.ofNat 1)) = true := by rw [n1, ieq_t]
  have f3 : ieq (isub .i64 (Int.ofNat 0) (0 : Int)) (Int.ofNat 0) = true := by rw [s0, ieq_t]; rfl
  refine pur_code code8_ok ?_
  conv => whnf
  repeat' ((first | refine vb_t rfl ?_ | refine vb_f rfl ?_ | refine vb_t ‹_› ?_ | refine vb_f ‹_› ?_ | refine vpur_i light6_nil ?_ | refine vpur_i hA ?_ | refine vor_l ?_ | fail) <;> conv => whnf)
  refine vloop_once ?_
  conv => whnf
  repeat' ((first | refine vb_t rfl ?_ | refine vb_f rfl ?_ | refine vb_t ‹_› ?_ | refine vb_f ‹_› ?_ | refine vor_l ?_ | fail) <;> conv => whnf)
  refine vloop_once ?_
  conv => whnf
  repeat' ((first | refine vb_t rfl ?_ | refine vb_f rfl ?_ | refine vb_t ‹_› ?_ | refine vb_f ‹_› ?_ | refine vb_t h01 ?_ | refine vo_i g1 ?_ | refine vor_l ?_ | fail) <;> conv => whnf)
  refine vloop_once ?_
  conv => whnf
  repeat' ((first | refine vb_t rfl ?_ | refine vb_f rfl ?_ | refine vb_t ‹_› ?_ | refine vb_f ‹_› ?_ | refine vb_f h11 ?_ | refine vb_t f2 ?_ | refine vpur_i lives15_ok ?_ | refine vor_l ?_ | fail) <;> conv => whnf)
  exact ⟨rfl, rfl⟩
theorem expandMany_ok (l : List Pc) (v : DV) (hv : SlV 11 (l.map pcRow) v) (hall : ∀ p ∈ l, PcOk p) (size gap : Int) : Pur F0 8 [.d v, I size, I gap] [] .no (.ret (B true)) .no := by
  obtain ⟨c, hL, hP⟩ := light6_ok l v hv hall
  cases c with
  | false =>
    have hy : (!false) = true := rfl
    refine pur_code code8_ok ?_
    conv => whnf
    repeat' ((first | refine vb_t rfl ?_ | refine vb_f rfl ?_ | refine vb_t ‹_› ?_ | refine vb_f ‹_› ?_ | refine vpur_i hL ?_ | refine vpur_i lives15_ok ?_ | refine vor_l ?_ | fail) <;> conv => whnf)
    exact ⟨rfl, rfl⟩
  | true =>
    obtain ⟨n, e, hC, _, hQ⟩ := counts_ok2 l v hv (light_sm hall (hP rfl)) size gap false
    by_cases he : e = 0
    · subst he
      obtain ⟨hG, _, _, hn0, hn1⟩ := hQ.good rfl
      rcases hv with ⟨rfl, hn⟩ | rfl
      · exact many_nil size gap (axis_nil size gap false n hC)
      · exact many_sl l size gap n hL (axis_ok l size gap false n hC hG hall hn0 hn1) hG hall hn0 (hQ.none rfl) (hQ.fill rfl)
    · exact many_err v size gap e hL (axis_err v size gap false n e hC he) he
end Go.Proofs.YtjeblkicgmmhiaaGreatDoor.Ab

