/- Some texts as one, one behind the other; what is not leaned on is left out. -/
import Derived.Test.YtkljckbaenbjeaaGreatDoorQ5
import Derived.Test.YtkljckbaenbjeaaGreatDoorQ4
set_option linter.unusedSimpArgs false
set_option linter.unusedVariables false
namespace Go.Proofs.YtkljckbaenbjeaaGreatDoor.Ab
open Go
set_option linter.unusedSimpArgs false
set_option maxRecDepth 100000
set_option linter.unusedVariables false
set_option maxHeartbeats 8000000
def plI (p : Pc) : List (Pc × Int) := if p.kind = 1 ∨ p.kind = 2 then [(p, 1)] else p.inner.map fun q => (q, p.count)
def plP : List Pc → List (Pc × Int)
 | [] => []
 | p :: l => plI p ++ plP l
theorem plP_append (a b : List Pc) : plP (a ++ b) = plP a ++ plP b := by
 induction a with
 | nil => rfl
 | cons p a ih => simp only [List.cons_append, plP, ih, List.append_assoc]
theorem plP_succ {l : List Pc} {k : Nat} {p : Pc} (hp : l[k]? = some p) : plP (l.take (k + 1)) = plP (l.take k) ++ plI p := by
 rw [take_snoc hp, plP_append]; simp [plP]
theorem split_at {α : Type} {l : List α} {k : Nat} {p : α} (hp : l[k]? = some p) : l = l.take k ++ (p :: l.drop (k + 1)) := by
 obtain ⟨h, rfl⟩ := List.getElem?_eq_some_iff.1 hp
 rw [List.getElem_cons_drop, List.take_append_drop]
structure Cs where
 s0 : Int
 s1 : Int
 m0 : Int
 m1 : Int
def ctRaw (size gap : Int) (s : Cs) (x : Pc × Int) : Cs :=
 if x.1.kind = 2 then
  if x.2 = 0 then ⟨s.s0, iadd .i64 s.s1 (imul .i64 (Int.ofNat 1) (iadd .i64 (brS x.1.t size).1 gap)), s.m0, iadd .i64 s.m1 (Int.ofNat 1)⟩
  else ⟨iadd .i64 s.s0 (imul .i64 x.2 (iadd .i64 (brS x.1.t size).1 gap)), s.s1, iadd .i64 s.m0 x.2, s.m1⟩
 else s
def fErr (size : Int) : List (Pc × Int) → Int
 | [] => 0
 | x :: l => if x.1.kind = 2 ∧ (brS x.1.t size).2 ≠ 0 then (brS x.1.t size).2 else fErr size l
theorem fErr_append {size : Int} {a b : List (Pc × Int)} (h : fErr size a = 0) : fErr size (a ++ b) = fErr size b := by
 induction a with
 | nil => rfl
 | cons x a ih =>
  simp only [List.cons_append, fErr] at h ⊢
  split
  · rename_i h1
    rw [if_pos h1] at h
    exact (h1.2 h).elim
  · rename_i h1
    rw [if_neg h1] at h
    exact ih h
def ctP : List AV := [.ptr 2 0, .ptr 3 0, .ptr 4 0, .ptr 5 0, .ptr 6 0, .ptr 7 0]
def cthP (s : Nat) (v : DV) (size gap rn re : Int) (x : Cs) : Heap := [rcs 12 s ctP, slc v, ibx 3 size, ibx 3 rn, ibx 29 re, ar2 x.s0 x.s1, ibx 3 gap, ar2 x.m0 x.m1]
def hct (v : DV) (size gap : Int) (l : List (Pc × Int)) : Heap := cthP 0 v size gap 0 0 (l.foldl (ctRaw size gap) ⟨0, 0, 0, 0⟩)
theorem hct_succ {v : DV} {size gap : Int} {l : List (Pc × Int)} {x : Pc × Int} : hct v size gap (l ++ [x]) = cthP 0 v size gap 0 0 (ctRaw size gap (l.foldl (ctRaw size gap) ⟨0, 0, 0, 0⟩) x) := by
 unfold hct; rw [List.foldl_append]; rfl
theorem raw_other {size gap : Int} {s : Cs} {q : Pc} {t : Int} (h : q.kind ≠ 2) : ctRaw size gap s (q, t) = s := if_neg h
theorem raw_fill {size gap : Int} {s : Cs} {q : Pc} {t : Int} (h : q.kind = 2) (ht : t = 0) : ctRaw size gap s (q, t) = ⟨s.s0, iadd .i64 s.s1 (imul .i64 (Int.ofNat 1) (iadd .i64 (brS q.t size).1 gap)), s.m0, iadd .i64 s.m1 (Int.ofNat 1)⟩ := by
 unfold ctRaw; rw [if_pos h, if_pos ht]
theorem raw_rep {size gap : Int} {s : Cs} {q : Pc} {t : Int} (h : q.kind = 2) (ht : t ≠ 0) : ctRaw size gap s (q, t) = ⟨iadd .i64 s.s0 (imul .i64 t (iadd .i64 (brS q.t size).1 gap)), s.s1, iadd .i64 s.m0 t, s.m1⟩ := by
 unfold ctRaw; rw [if_pos h, if_neg ht]
theorem ctround_fill' (q : Pc) (t size gap : Int) (s : Cs) (ht : t = 0) (hq : q.kind = 2) (he : (brS q.t size).2 = 0) :
 CallsTo F0 (1048576 + 12) [.yld .opn 12 0, pcA q, I t] (cth 0 ctC size gap 0 0 s.s0 s.s1 s.m0 s.m1) .no ⟨.ret (B true), cth 0 ctC size gap 0 0 s.s0 (iadd .i64 s.s1 (imul .i64 (Int.ofNat 1) (iadd .i64 (brS q.t size).1 gap))) s.m0 (iadd .i64 s.m1 (Int.ofNat 1)), .no⟩ := by
 subst ht; exact ctround_fill q size gap s.s0 s.s1 s.m0 s.m1 hq he
theorem fErr_one {size : Int} {q : Pc} {t : Int} (h : q.kind = 2) (he : (brS q.t size).2 ≠ 0) {a b : List (Pc × Int)} (ha : fErr size a = 0) : fErr size (a ++ ((q, t) :: b)) = (brS q.t size).2 := by
 rw [fErr_append ha]
 simp only [fErr]
 rw [if_pos ⟨h, he⟩]
theorem fErr_none {size : Int} {q : Pc} {t : Int} (h : ¬ (q.kind = 2 ∧ (brS q.t size).2 ≠ 0)) {a : List (Pc × Int)} (ha : fErr size a = 0) : fErr size (a ++ [(q, t)]) = 0 := by
 rw [fErr_append ha]
 simp only [fErr]
 rw [if_neg h]
def PlainE (v : DV) (size gap : Int) (l : List (Pc × Int)) (g : Heap) : Prop := (fErr size l = 0 ∧ g = hct v size gap l) ∨ (fErr size l ≠ 0 ∧ ∃ s : Cs, g = cthP 2 v size gap 0 (fErr size l) s)
def ar1 (p : Pc) : Obj := ⟨.mine, 43, .arr false 0 11 [pcRow p]⟩
theorem take_one {A : List (Pc × Int)} {p : Pc} : (A ++ (([p] : List Pc).take 0).map fun q => (q, (1 : Int))) = A := by simp
theorem take_one1 {A : List (Pc × Int)} {p : Pc} : (A ++ (([p] : List Pc).take 1).map fun q => (q, (1 : Int))) = A ++ [(p, 1)] := by simp
theorem plain1_some (l : List Pc) (hlen : l.length ≤ 1000000) (hall : ∀ p ∈ l, PcOk p ∧ p.inner.length ≤ 1000000) (size gap : Int) : ∃ c g rc', Drp F0 8 60 [.yld .opn 12 0, .ptr 1 0] (hct (.sl 11 (l.map pcRow)) size gap []) .no c g rc' ∧ (c = .ret (.tup []) ∧ rc' = .no ∧ PlainE (.sl 11 (l.map pcRow)) size gap (plP l) g) := by
 refine drp_some (Q := fun c g rc' => c = .ret (.tup []) ∧ rc' = .no ∧ PlainE (.sl 11 (l.map pcRow)) size gap (plP l) g) code60_ok ?_
 conv => whnf
 repeat' ((first | refine bt ?_ | refine bf ?_ | refine vl ?_ | fail) <;> conv => whnf)
 refine vloop_cnh (α := Unit) l.length (fun k _ => fErr size (plP (l.take k)) = 0) (fun k _ => [(11, I (k : Int))]) (fun k _ => hct (.sl 11 (l.map pcRow)) size gap (plP (l.take k))) () rfl rfl rfl ?_
 intro k _ hk hI
 conv => whnf
 have hx : (!true) = false := rfl
 have hy : (!false) = true := rfl
 by_cases hlt : k < l.length
 · obtain ⟨p, hp⟩ := get_in hlt
   have hg := iget_map (f := pcRow) hp
   have hl := lt_len (f := pcRow) hlt
   obtain ⟨hpo, hpi⟩ := hall p (List.mem_of_getElem? hp)
   have hS := plP_succ hp
   have hW : plP l = plP (l.take k) ++ (plI p ++ plP (l.drop (k + 1))) := by
    conv => lhs; rw [split_at hp]
    rw [plP_append]; rfl
   clear hp hall
   cases hpo with
   | @mk kd vn names t c vi inner hn hi h0 =>
   simp only [Pc.inner] at hpi
   by_cases k1 : kd = 1
   · have q1 : ieq kd (Int.ofNat 1) = true := by rw [ieq_t]; exact k1
     have hP : plI (.mk kd vn names t c vi inner) = [(Pc.mk kd vn names t c vi inner, (1 : Int))] := by unfold plI; rw [if_pos (.inl k1)]
     rw [hP] at hS hW
     clear hP h0 hi hpi
     repeat' ((first | refine bt ?_ | refine bf ?_ | refine vo_i hg ?_ | refine vl ?_ | fail) <;> conv => whnf)
     refine vloop_cnh (α := Unit) 1 (fun j _ => fErr size (plP (l.take k) ++ (([Pc.mk kd vn names t c vi inner]).take j).map fun q => (q, (1 : Int))) = 0) (fun j _ => [(31, I (j : Int))]) (fun j _ => hct (.sl 11 (l.map pcRow)) size gap (plP (l.take k) ++ (([Pc.mk kd vn names t c vi inner]).take j).map fun q => (q, (1 : Int))) ++ [ar1 (.mk kd vn names t c vi inner)]) () (by simpa using hI) rfl (by rw [List.take_zero, List.map_nil, List.append_nil]; rfl) ?_
     intro j _ hj hJ
     conv => whnf
     rcases Nat.lt_or_ge j 1 with hlj | hlj
     · obtain rfl : j = 0 := by omega
       have hlq : ilt ((0 : Nat) : Int) (((1 : Nat) : Int) - ((0 : Nat) : Int)) = true := by rw [ilt_t]; decide
       have hgq : iget (List.drop 0 (List.take 1 [pcRow (Pc.mk kd vn names t c vi inner)])) ((0 : Nat) : Int) = some (pcRow (Pc.mk kd vn names t c vi inner)) := iget_t rfl
       have hgr : ([pcRow (Pc.mk kd vn names t c vi inner)] : List (List DV))[0 + (((0 : Nat) : Int)).toNat]? = some (pcRow (Pc.mk kd vn names t c vi inner)) := rfl
       have hk2 : (Pc.mk kd vn names t c vi inner).kind ≠ 2 := by show kd ≠ 2; omega
       rw [take_one] at hJ ⊢
       have hN := fErr_none (t := 1) (fun h => hk2 h.1) hJ
       have hR := ctround_other (.mk kd vn names t c vi inner) 1 size gap ((plP (l.take k)).foldl (ctRaw size gap) ⟨0, 0, 0, 0⟩).s0 ((plP (l.take k)).foldl (ctRaw size gap) ⟨0, 0, 0, 0⟩).s1 ((plP (l.take k)).foldl (ctRaw size gap) ⟨0, 0, 0, 0⟩).m0 ((plP (l.take k)).foldl (ctRaw size gap) ⟨0, 0, 0, 0⟩).m1 hk2
       have hH : hct (.sl 11 (l.map pcRow)) size gap (plP (l.take k) ++ (([Pc.mk kd vn names t c vi inner]).take 1).map fun q => (q, (1 : Int))) = cthP 0 (.sl 11 (l.map pcRow)) size gap 0 0 ((plP (l.take k)).foldl (ctRaw size gap) ⟨0, 0, 0, 0⟩) := by rw [take_one1, hct_succ, raw_other hk2]
       repeat' ((first | refine bt ?_ | refine bf ?_ | refine vo_i hgq ?_ | refine vo_i hgr ?_ | refine vcall_i hR ?_ | refine vl ?_ | fail) <;> conv => whnf)
       exact ⟨⟨(1, ()), (by omega), (by rw [← take_one1 (p := Pc.mk kd vn names t c vi inner)] at hN; exact hN)⟩, (by simp only; omega), (by repeat' (first | exact rfl | exact slot_eq (I_eq (iadd_one (by omega))) | (refine cons_eq ?_ ?_) | assumption)), Eq.symm (Eq.trans (congrArg (· ++ [ar1 (Pc.mk kd vn names t c vi inner)]) hH) rfl), rfl, rfl⟩
     · obtain rfl : j = 1 := by omega
       have hlq : ilt ((1 : Nat) : Int) (((1 : Nat) : Int) - ((0 : Nat) : Int)) = false := by rw [ilt_f]; decide
       rw [take_one1, ← hS] at hJ ⊢
       repeat' ((first | refine bt ?_ | refine bf ?_ | refine vl ?_ | fail) <;> conv => whnf)
       exact ⟨⟨(k + 1, ()), (by omega), hJ⟩, (by simp only; omega), (by repeat' (first | exact rfl | exact slot_eq (I_eq (iadd_one (by omega))) | (refine cons_eq ?_ ?_) | assumption)), rfl, rfl, rfl⟩
   · by_cases k2 : kd = 2
     · have q1 : ieq kd (Int.ofNat 1) = false := by rw [ieq_f]; exact k1
       have q2 : ieq kd (Int.ofNat 2) = true := by rw [ieq_t]; exact k2
       have hP : plI (.mk kd vn names t c vi inner) = [(Pc.mk kd vn names t c vi inner, (1 : Int))] := by unfold plI; rw [if_pos (.inr k2)]
       rw [hP] at hS hW
       clear hP h0 hi hpi
       repeat' ((first | refine bt ?_ | refine bf ?_ | refine vo_i hg ?_ | refine vl ?_ | fail) <;> conv => whnf)
       refine vloop_cnh (α := Unit) 1 (fun j _ => fErr size (plP (l.take k) ++ (([Pc.mk kd vn names t c vi inner]).take j).map fun q => (q, (1 : Int))) = 0) (fun j _ => [(31, I (j : Int))]) (fun j _ => hct (.sl 11 (l.map pcRow)) size gap (plP (l.take k) ++ (([Pc.mk kd vn names t c vi inner]).take j).map fun q => (q, (1 : Int))) ++ [ar1 (.mk kd vn names t c vi inner)]) () (by simpa using hI) rfl (by rw [List.take_zero, List.map_nil, List.append_nil]; rfl) ?_
       intro j _ hj hJ
       conv => whnf
       rcases Nat.lt_or_ge j 1 with hlj | hlj
       · obtain rfl : j = 0 := by omega
         have hlq : ilt ((0 : Nat) : Int) (((1 : Nat) : Int) - ((0 : Nat) : Int)) = true := by rw [ilt_t]; decide
         have hgq : iget (List.drop 0 (List.take 1 [pcRow (Pc.mk kd vn names t c vi inner)])) ((0 : Nat) : Int) = some (pcRow (Pc.mk kd vn names t c vi inner)) := iget_t rfl
         have hgr : ([pcRow (Pc.mk kd vn names t c vi inner)] : List (List DV))[0 + (((0 : Nat) : Int)).toNat]? = some (pcRow (Pc.mk kd vn names t c vi inner)) := rfl
         have hk2 : (Pc.mk kd vn names t c vi inner).kind = 2 := k2
         rw [take_one] at hJ ⊢
         by_cases he : (brS (Pc.mk kd vn names t c vi inner).t size).2 = 0
         · have hN := fErr_none (t := 1) (fun h => h.2 he) hJ
           have hR := ctround_rep (.mk kd vn names t c vi inner) 1 size gap ((plP (l.take k)).foldl (ctRaw size gap) ⟨0, 0, 0, 0⟩).s0 ((plP (l.take k)).foldl (ctRaw size gap) ⟨0, 0, 0, 0⟩).s1 ((plP (l.take k)).foldl (ctRaw size gap) ⟨0, 0, 0, 0⟩).m0 ((plP (l.take k)).foldl (ctRaw size gap) ⟨0, 0, 0, 0⟩).m1 hk2 he (by decide)
           have hH := (congrArg (hct (.sl 11 (l.map pcRow)) size gap) (take_one1 (A := plP (l.take k)) (p := Pc.mk kd vn names t c vi inner))).trans (hct_succ.trans (congrArg (cthP 0 (.sl 11 (l.map pcRow)) size gap 0 0) (raw_rep (size := size) (gap := gap) (s := (plP (l.take k)).foldl (ctRaw size gap) ⟨0, 0, 0, 0⟩) hk2 (show (1 : Int) ≠ 0 by decide))))
           repeat' ((first | refine bt ?_ | refine bf ?_ | refine vo_i hgq ?_ | refine vo_i hgr ?_ | refine vcall_i hR ?_ | refine vl ?_ | fail) <;> conv => whnf)
           exact ⟨⟨(1, ()), (by omega), (by rw [← take_one1 (p := Pc.mk kd vn names t c vi inner)] at hN; exact hN)⟩, (by simp only; omega), (by repeat' (first | exact rfl | exact slot_eq (I_eq (iadd_one (by omega))) | (refine cons_eq ?_ ?_) | assumption)), Eq.symm (Eq.trans (congrArg (· ++ [ar1 (Pc.mk kd vn names t c vi inner)]) hH) rfl), rfl, rfl⟩
         · have hR := ctround_err (.mk kd vn names t c vi inner) 1 size gap ((plP (l.take k)).foldl (ctRaw size gap) ⟨0, 0, 0, 0⟩).s0 ((plP (l.take k)).foldl (ctRaw size gap) ⟨0, 0, 0, 0⟩).s1 ((plP (l.take k)).foldl (ctRaw size gap) ⟨0, 0, 0, 0⟩).m0 ((plP (l.take k)).foldl (ctRaw size gap) ⟨0, 0, 0, 0⟩).m1 hk2 he
           have hF := fErr_one (t := 1) hk2 he hJ (b := plP (l.drop (k + 1)))
           rw [List.singleton_append] at hW
           rw [← hW] at hF
           rw [← hF] at hR he
           repeat' ((first | refine bt ?_ | refine bf ?_ | refine vo_i hgq ?_ | refine vo_i hgr ?_ | refine vcall_i hR ?_ | refine vl ?_ | fail) <;> conv => whnf)
           exact ⟨rfl, rfl, .inr ⟨he, _, rfl⟩⟩
       · obtain rfl : j = 1 := by omega
         have hlq : ilt ((1 : Nat) : Int) (((1 : Nat) : Int) - ((0 : Nat) : Int)) = false := by rw [ilt_f]; decide
         rw [take_one1, ← hS] at hJ ⊢
         repeat' ((first | refine bt ?_ | refine bf ?_ | refine vl ?_ | fail) <;> conv => whnf)
         exact ⟨⟨(k + 1, ()), (by omega), hJ⟩, (by simp only; omega), (by repeat' (first | exact rfl | exact slot_eq (I_eq (iadd_one (by omega))) | (refine cons_eq ?_ ?_) | assumption)), rfl, rfl, rfl⟩
     · have q1 : ieq kd (Int.ofNat 1) = false := by rw [ieq_f]; exact k1
       have q2 : ieq kd (Int.ofNat 2) = false := by rw [ieq_f]; exact k2
       have hP : plI (.mk kd vn names t c vi inner) = (inner.map fun q => (q, c)) := by unfold plI; rw [if_neg (by rintro (h | h); exact k1 h; exact k2 h)]; rfl
       rw [hP] at hS hW
       clear hP h0
       rcases hi with ⟨rfl, hi⟩ | rfl
       · obtain rfl : inner = [] := List.map_eq_nil_iff.1 hi
         rw [show (List.map (fun q => (q, c)) ([] : List Pc)) = [] from rfl, List.append_nil] at hS
         repeat' ((first | refine bt ?_ | refine bf ?_ | refine vo_i hg ?_ | refine vl ?_ | fail) <;> conv => whnf)
         refine vloop_cnh (α := Unit) 0 (fun _ _ => True) (fun j _ => [(31, I (j : Int))]) (fun j _ => hct (.sl 11 (l.map pcRow)) size gap (plP (l.take k))) () trivial rfl rfl ?_
         intro j _ hj _
         obtain rfl : j = 0 := by omega
         conv => whnf
         have hz0 : ilt ((0 : Nat) : Int) (0 : Int) = false := by rw [ilt_f]; omega
         repeat' ((first | refine bt ?_ | refine bf ?_ | refine vb_f (by (first | omega | (simp only [ilt_t, ilt_f, ile_t, ile_f, ieq_t, ieq_f, ofn, List.length_map, Bool.not_eq_true', Bool.not_eq_false'] at *; omega))) ?_ | refine vl ?_ | fail) <;> conv => whnf)
         exact ⟨⟨(k + 1, ()), (by omega), (show fErr size (plP (List.take (k + 1) l)) = 0 by rw [hS]; exact hI)⟩, (by simp only; omega), (by repeat' (first | exact rfl | exact slot_eq (I_eq (iadd_one (by omega))) | (refine cons_eq ?_ ?_) | assumption)), Eq.symm (Eq.trans (congrArg (hct _ _ _) hS) rfl), rfl, rfl⟩
       · repeat' ((first | refine bt ?_ | refine bf ?_ | refine vo_i hg ?_ | refine vl ?_ | fail) <;> conv => whnf)
         refine vloop_cnh (α := Unit) inner.length (fun j _ => fErr size (plP (l.take k) ++ (inner.take j).map fun q => (q, c)) = 0) (fun j _ => [(31, I (j : Int))]) (fun j _ => hct (.sl 11 (l.map pcRow)) size gap (plP (l.take k) ++ (inner.take j).map fun q => (q, c))) () (by simpa using hI) rfl (by rw [List.take_zero, List.map_nil, List.append_nil]; rfl) ?_
         intro j _ hj hJ
         conv => whnf
         by_cases hlj : j < inner.length
         · obtain ⟨q, hq⟩ := get_in hlj
           have hgq := iget_map (f := pcRow) hq
           have hlq := lt_len (f := pcRow) hlj
           have hE : (plP (l.take k) ++ (inner.take (j + 1)).map fun q => (q, c)) = (plP (l.take k) ++ (inner.take j).map fun q => (q, c)) ++ [(q, c)] := by rw [take_snoc hq]; simp
           have hV : plP l = (plP (l.take k) ++ (inner.take j).map fun q => (q, c)) ++ ((q, c) :: (((inner.drop (j + 1)).map fun q => (q, c)) ++ plP (l.drop (k + 1)))) := by
            rw [hW]
            conv => lhs; rw [split_at hq]
            simp
           clear hq hW hS
           generalize hLL : (plP (l.take k) ++ (inner.take j).map fun q => (q, c)) = L at hJ hE hV ⊢
           cases q with
           | mk kd2 vn2 names2 t2 c2 vi2 inner2 =>
           by_cases hk2 : (Pc.mk kd2 vn2 names2 t2 c2 vi2 inner2).kind = 2
           · by_cases he : (brS (Pc.mk kd2 vn2 names2 t2 c2 vi2 inner2).t size).2 = 0
             · have hN := fErr_none (t := c) (fun h => h.2 he) hJ
               rw [← hE] at hN
               by_cases ht : c = 0
               · have hR := ctround_fill' (.mk kd2 vn2 names2 t2 c2 vi2 inner2) c size gap (L.foldl (ctRaw size gap) ⟨0, 0, 0, 0⟩) ht hk2 he
                 repeat' ((first | refine bt ?_ | refine bf ?_ | refine vo_i hgq ?_ | refine vcall_i hR ?_ | refine vl ?_ | fail) <;> conv => whnf)
                 exact ⟨⟨(j + 1, ()), (by omega), hN⟩, (by simp only; omega), (by repeat' (first | exact rfl | exact slot_eq (I_eq (iadd_one (by omega))) | (refine cons_eq ?_ ?_) | assumption)), Eq.symm (Eq.trans (congrArg (hct _ _ _) hE) (hct_succ.trans ((congrArg (cthP 0 _ size gap 0 0) (raw_fill hk2 ht)).trans rfl))), rfl, rfl⟩
               · have hR := ctround_rep (.mk kd2 vn2 names2 t2 c2 vi2 inner2) c size gap (L.foldl (ctRaw size gap) ⟨0, 0, 0, 0⟩).s0 (L.foldl (ctRaw size gap) ⟨0, 0, 0, 0⟩).s1 (L.foldl (ctRaw size gap) ⟨0, 0, 0, 0⟩).m0 (L.foldl (ctRaw size gap) ⟨0, 0, 0, 0⟩).m1 hk2 he ht
                 repeat' ((first | refine bt ?_ | refine bf ?_ | refine vo_i hgq ?_ | refine vcall_i hR ?_ | refine vl ?_ | fail) <;> conv => whnf)
                 exact ⟨⟨(j + 1, ()), (by omega), hN⟩, (by simp only; omega), (by repeat' (first | exact rfl | exact slot_eq (I_eq (iadd_one (by omega))) | (refine cons_eq ?_ ?_) | assumption)), Eq.symm (Eq.trans (congrArg (hct _ _ _) hE) (hct_succ.trans ((congrArg (cthP 0 _ size gap 0 0) (raw_rep hk2 ht)).trans rfl))), rfl, rfl⟩
             · have hR := ctround_err (.mk kd2 vn2 names2 t2 c2 vi2 inner2) c size gap (L.foldl (ctRaw size gap) ⟨0, 0, 0, 0⟩).s0 (L.foldl (ctRaw size gap) ⟨0, 0, 0, 0⟩).s1 (L.foldl (ctRaw size gap) ⟨0, 0, 0, 0⟩).m0 (L.foldl (ctRaw size gap) ⟨0, 0, 0, 0⟩).m1 hk2 he
               have hF := fErr_one (t := c) hk2 he hJ (b := ((inner.drop (j + 1)).map fun q => (q, c)) ++ plP (l.drop (k + 1)))
               rw [← hV] at hF
               rw [← hF] at hR he
               repeat' ((first | refine bt ?_ | refine bf ?_ | refine vo_i hgq ?_ | refine vcall_i hR ?_ | refine vl ?_ | fail) <;> conv => whnf)
               exact ⟨rfl, rfl, .inr ⟨he, _, rfl⟩⟩
           · have hN := fErr_none (t := c) (fun h => hk2 h.1) hJ
             rw [← hE] at hN
             have hR := ctround_other (.mk kd2 vn2 names2 t2 c2 vi2 inner2) c size gap (L.foldl (ctRaw size gap) ⟨0, 0, 0, 0⟩).s0 (L.foldl (ctRaw size gap) ⟨0, 0, 0, 0⟩).s1 (L.foldl (ctRaw size gap) ⟨0, 0, 0, 0⟩).m0 (L.foldl (ctRaw size gap) ⟨0, 0, 0, 0⟩).m1 hk2
             repeat' ((first | refine bt ?_ | refine bf ?_ | refine vo_i hgq ?_ | refine vcall_i hR ?_ | refine vl ?_ | fail) <;> conv => whnf)
             exact ⟨⟨(j + 1, ()), (by omega), hN⟩, (by simp only; omega), (by repeat' (first | exact rfl | exact slot_eq (I_eq (iadd_one (by omega))) | (refine cons_eq ?_ ?_) | assumption)), Eq.symm (Eq.trans (congrArg (hct _ _ _) hE) (hct_succ.trans ((congrArg (cthP 0 _ size gap 0 0) (raw_other hk2)).trans rfl))), rfl, rfl⟩
         · have hlq := nlt_len (f := pcRow) hlj
           have e : inner.take j = inner := List.take_of_length_le (by omega)
           rw [e, ← hS] at hJ ⊢
           repeat' ((first | refine bt ?_ | refine bf ?_ | refine vb_f (by (first | omega | (simp only [ilt_t, ilt_f, ile_t, ile_f, ieq_t, ieq_f, ofn, List.length_map, Bool.not_eq_true', Bool.not_eq_false'] at *; omega))) ?_ | refine vl ?_ | fail) <;> conv => whnf)
           exact ⟨⟨(k + 1, ()), (by omega), hJ⟩, (by simp only; omega), (by repeat' (first | exact rfl | exact slot_eq (I_eq (iadd_one (by omega))) | (refine cons_eq ?_ ?_) | assumption)), rfl, rfl, rfl⟩
 · have hl := nlt_len (f := pcRow) hlt
   have e : l.take k = l := List.take_of_length_le (by omega)
   rw [e] at hI ⊢
   repeat' ((first | refine bt ?_ | refine bf ?_ | refine vb_f (by (first | omega | (simp only [ilt_t, ilt_f, ile_t, ile_f, ieq_t, ieq_f, ofn, List.length_map, Bool.not_eq_true', Bool.not_eq_false'] at *; omega))) ?_ | refine vl ?_ | fail) <;> conv => whnf)
   exact ⟨rfl, rfl, .inl ⟨hI, rfl⟩⟩
end Go.Proofs.YtkljckbaenbjeaaGreatDoor.Ab
namespace Go.Proofs.YtkljckbaenbjeaaGreatDoor.Ab
open Go
set_option linter.unusedSimpArgs false
set_option maxRecDepth 100000
set_option linter.unusedVariables false
set_option maxHeartbeats 8000000
def timesS (p : Pc) (n : Int) : Int := if p.kind = 3 then p.count else n
theorem rtimes_ok (p : Pc) (n : Int) : Pur F0 19 [pcA p, I n] [] .no (.ret (I (timesS p n))) .no := by
 cases p with
 | mk kd vn names t c vi inner =>
 unfold timesS
 by_cases h3 : kd = 3
 · have q1 : ieq kd (Int.ofNat 3) = true := by rw [ieq_t]; exact h3
   rw [if_pos (show (Pc.mk kd vn names t c vi inner).kind = 3 from h3)]
   refine pur_code code19_ok ?_
   conv => whnf
   repeat' ((first | refine bt ?_ | refine bf ?_ | refine vl ?_ | fail) <;> conv => whnf)
   exact ⟨rfl, rfl⟩
 · have q1 : ieq kd (Int.ofNat 3) = false := by rw [ieq_f]; exact h3
   rw [if_neg (show ¬ (Pc.mk kd vn names t c vi inner).kind = 3 from h3)]
   refine pur_code code19_ok ?_
   conv => whnf
   repeat' ((first | refine bt ?_ | refine bf ?_ | refine vl ?_ | fail) <;> conv => whnf)
   exact ⟨rfl, rfl⟩
def plJ (n : Int) (p : Pc) : List (Pc × Int) := if 3 ≤ p.kind then p.inner.map fun q => (q, timesS p n) else [(p, 1)]
def plN (n : Int) : List Pc → List (Pc × Int)
 | [] => []
 | p :: l => plJ n p ++ plN n l
theorem plN_append (n : Int) (a b : List Pc) : plN n (a ++ b) = plN n a ++ plN n b := by
 induction a with
 | nil => rfl
 | cons p a ih => simp only [List.cons_append, plN, ih, List.append_assoc]
theorem plN_succ {n : Int} {l : List Pc} {k : Nat} {p : Pc} (hp : l[k]? = some p) : plN n (l.take (k + 1)) = plN n (l.take k) ++ plJ n p := by
 rw [take_snoc hp, plN_append]; simp [plN]
def rtRaw (size : Int) (s : Int × Int) (x : Pc × Int) : Int × Int := if x.1.kind = 2 then (iadd .i64 s.1 (imul .i64 x.2 (brS x.1.t size).1), iadd .i64 s.2 x.2) else s
theorem rt_other {size : Int} {s : Int × Int} {q : Pc} {t : Int} (h : q.kind ≠ 2) : rtRaw size s (q, t) = s := if_neg h
theorem rt_two {size : Int} {s : Int × Int} {q : Pc} {t : Int} (h : q.kind = 2) : rtRaw size s (q, t) = (iadd .i64 s.1 (imul .i64 t (brS q.t size).1), iadd .i64 s.2 t) := if_pos h
theorem rt_snoc {size : Int} {L : List (Pc × Int)} {x : Pc × Int} {s : Int × Int} : (L ++ [x]).foldl (rtRaw size) s = rtRaw size (L.foldl (rtRaw size) s) x := by rw [List.foldl_append]; rfl
theorem plN_split {n : Int} {l : List Pc} {k : Nat} {p : Pc} (hp : l[k]? = some p) : plN n l = plN n (l.take k) ++ (plJ n p ++ plN n (l.drop (k + 1))) := by
 conv => lhs; rw [split_at hp]
 rw [plN_append]; rfl
def totS (n size gap : Int) (l : List Pc) : Int × Int × Int :=
 if fErr size (plN n l) = 0 then (iadd .i64 ((plN n l).foldl (rtRaw size) (0, 0)).1 (imul .i64 (isub .i64 ((plN n l).foldl (rtRaw size) (0, 0)).2 (Int.ofNat 1)) gap), ((plN n l).foldl (rtRaw size) (0, 0)).2, 0)
 else (0, 0, fErr size (plN n l))
theorem tot_err {n size gap : Int} {l : List Pc} {e : Int} (h : fErr size (plN n l) = e) (he : e ≠ 0) : totS n size gap l = (0, 0, e) := by
 unfold totS; rw [if_neg (by rw [h]; exact he), h]
theorem rtotal_ok (l : List Pc) (hlen : l.length ≤ 1000000) (hall : ∀ p ∈ l, PcOk p ∧ p.inner.length ≤ 1000000) (n size gap : Int) : Pur F0 38 [.d (.sl 11 (l.map pcRow)), I n, I size, I gap] [] .no (.ret (.tup [I (totS n size gap l).1, I (totS n size gap l).2.1, I (totS n size gap l).2.2])) .no := by
 refine pur_code code38_ok ?_
 conv => whnf
 repeat' ((first | refine bt ?_ | refine bf ?_ | refine vl ?_ | fail) <;> conv => whnf)
 refine vloop_cnt (α := Int × Int) l.length (fun k x => fErr size (plN n (l.take k)) = 0 ∧ x = (plN n (l.take k)).foldl (rtRaw size) (0, 0)) (fun k x => [(11, I x.1), (12, I x.2), (13, I (k : Int))]) (0, 0) ⟨rfl, rfl⟩ rfl ?_
 intro k x hk hI
 obtain ⟨sm, mn⟩ := x
 obtain ⟨hI, hX⟩ := hI
 conv => whnf
 by_cases hlt : k < l.length
 · obtain ⟨p, hp⟩ := get_in hlt
   have hg := iget_map (f := pcRow) hp
   have hl := lt_len (f := pcRow) hlt
   obtain ⟨hpo, hpi⟩ := hall p (List.mem_of_getElem? hp)
   have hS := plN_succ (n := n) hp
   have hW := plN_split (n := n) hp
   have hT := rtimes_ok p n
   clear hp hall
   cases hpo with
   | @mk kd vn names t c vi inner hn hi h0 =>
   simp only [Pc.inner] at hpi
   by_cases h3 : 3 ≤ kd
   · have q1 : ile (Int.ofNat 3) kd = true := by rw [ile_t, lit3]; exact h3
     have hJJ : plJ n (.mk kd vn names t c vi inner) = inner.map fun q => (q, timesS (.mk kd vn names t c vi inner) n) := if_pos h3
     rw [hJJ] at hS hW
     clear hJJ h0
     generalize timesS (.mk kd vn names t c vi inner) n = tm at hT hS hW
     rcases hi with ⟨rfl, hi⟩ | rfl
     · obtain rfl : inner = [] := List.map_eq_nil_iff.1 hi
       rw [show (List.map (fun q => (q, tm)) ([] : List Pc)) = [] from rfl, List.append_nil] at hS
       repeat' ((first | refine bt ?_ | refine bf ?_ | refine vo_i hg ?_ | refine vpur_i hT ?_ | refine vl ?_ | fail) <;> conv => whnf)
       refine vloop_cnt (α := Unit) 0 (fun _ _ => True) (fun j _ => [(16, I (j : Int))]) () trivial rfl ?_
       intro j _ hj _
       obtain rfl : j = 0 := by omega
       conv => whnf
       have hz0 : ilt ((0 : Nat) : Int) (0 : Int) = false := by rw [ilt_f]; omega
       repeat' ((first | refine bt ?_ | refine bf ?_ | refine vb_f (by (first | omega | (simp only [ilt_t, ilt_f, ile_t, ile_f, ieq_t, ieq_f, ofn, List.length_map, Bool.not_eq_true', Bool.not_eq_false'] at *; omega))) ?_ | refine vl ?_ | fail) <;> conv => whnf)
       refine ⟨⟨(k + 1, (sm, mn)), (by omega), ?_⟩, (by simp only; omega), (by repeat' (first | exact rfl | exact slot_eq (I_eq (iadd_one (by omega))) | (refine cons_eq ?_ ?_) | assumption)), rfl, rfl, rfl⟩
       show fErr size (plN n (l.take (k + 1))) = 0 ∧ (sm, mn) = (plN n (l.take (k + 1))).foldl (rtRaw size) (0, 0)
       rw [hS]
       exact ⟨hI, hX⟩
     · repeat' ((first | refine bt ?_ | refine bf ?_ | refine vo_i hg ?_ | refine vpur_i hT ?_ | refine vl ?_ | fail) <;> conv => whnf)
       refine vloop_cnt (α := Int × Int) inner.length (fun j x => fErr size (plN n (l.take k) ++ (inner.take j).map fun q => (q, tm)) = 0 ∧ x = (plN n (l.take k) ++ (inner.take j).map fun q => (q, tm)).foldl (rtRaw size) (0, 0)) (fun j x => [(11, I x.1), (12, I x.2), (16, I (j : Int))]) (sm, mn) (by rw [List.take_zero, List.map_nil, List.append_nil]; exact ⟨hI, hX⟩) rfl ?_
       intro j y hj hJ
       obtain ⟨s2, m2⟩ := y
       obtain ⟨hJ, hY⟩ := hJ
       conv => whnf
       by_cases hlj : j < inner.length
       · obtain ⟨q, hq⟩ := get_in hlj
         have hgq := iget_map (f := pcRow) hq
         have hlq := lt_len (f := pcRow) hlj
         have hE : (plN n (l.take k) ++ (inner.take (j + 1)).map fun q => (q, tm)) = (plN n (l.take k) ++ (inner.take j).map fun q => (q, tm)) ++ [(q, tm)] := by rw [take_snoc hq]; simp
         have hV : plN n l = (plN n (l.take k) ++ (inner.take j).map fun q => (q, tm)) ++ ((q, tm) :: (((inner.drop (j + 1)).map fun q => (q, tm)) ++ plN n (l.drop (k + 1)))) := by
          rw [hW]
          conv => lhs; rw [split_at hq]
          simp
         clear hq hW hS
         generalize hLL : (plN n (l.take k) ++ (inner.take j).map fun q => (q, tm)) = L at hJ hE hV hY
         cases q with
         | mk kd2 vn2 names2 t2 c2 vi2 inner2 =>
         have hb := rbreadth_ok t2 size
         by_cases hk2 : kd2 = 2
         · have u1 : (!ieq kd2 (Int.ofNat 2)) = false := by rw [Bool.not_eq_false', ieq_t]; exact hk2
           by_cases he : (brS t2 size).2 = 0
           · have u2 : (!ieq (brS t2 size).2 (Int.ofNat 0)) = false := by rw [Bool.not_eq_false', ieq_t]; exact he
             have hN := fErr_none (q := .mk kd2 vn2 names2 t2 c2 vi2 inner2) (t := tm) (fun h => h.2 he) hJ
             have hM := rt_snoc (size := size) (L := L) (x := (Pc.mk kd2 vn2 names2 t2 c2 vi2 inner2, tm)) (s := (0, 0))
             rw [← hE, rt_two (show (Pc.mk kd2 vn2 names2 t2 c2 vi2 inner2).kind = 2 from hk2), ← hY] at hM
             rw [← hE] at hN
             repeat' ((first | refine bt ?_ | refine bf ?_ | refine vo_i hg ?_ | refine vo_i hgq ?_ | refine vpur_i hb ?_ | refine vl ?_ | fail) <;> conv => whnf)
             exact ⟨⟨(j + 1, _), (by omega), hN, hM.symm⟩, (by simp only; omega), (by repeat' (first | exact rfl | exact slot_eq (I_eq (iadd_one (by omega))) | (refine cons_eq ?_ ?_) | assumption)), rfl, rfl, rfl⟩
           · have u2 : (!ieq (brS t2 size).2 (Int.ofNat 0)) = true := by rw [Bool.not_eq_true', ieq_f]; exact he
             have hF := fErr_one (q := .mk kd2 vn2 names2 t2 c2 vi2 inner2) (t := tm) hk2 he hJ (b := ((inner.drop (j + 1)).map fun q => (q, tm)) ++ plN n (l.drop (k + 1)))
             rw [← hV] at hF
             rw [tot_err hF he]
             repeat' ((first | refine bt ?_ | refine bf ?_ | refine vo_i hg ?_ | refine vo_i hgq ?_ | refine vpur_i hb ?_ | refine vl ?_ | fail) <;> conv => whnf)
             exact ⟨rfl, rfl⟩
         · have u1 : (!ieq kd2 (Int.ofNat 2)) = true := by rw [Bool.not_eq_true', ieq_f]; exact hk2
           have hN := fErr_none (q := .mk kd2 vn2 names2 t2 c2 vi2 inner2) (t := tm) (fun h => hk2 h.1) hJ
           have hM := rt_snoc (size := size) (L := L) (x := (Pc.mk kd2 vn2 names2 t2 c2 vi2 inner2, tm)) (s := (0, 0))
           rw [← hE, rt_other (show (Pc.mk kd2 vn2 names2 t2 c2 vi2 inner2).kind ≠ 2 from hk2), ← hY] at hM
           rw [← hE] at hN
           repeat' ((first | refine bt ?_ | refine bf ?_ | refine vo_i hg ?_ | refine vo_i hgq ?_ | refine vl ?_ | fail) <;> conv => whnf)
           exact ⟨⟨(j + 1, (s2, m2)), (by omega), hN, hM.symm⟩, (by simp only; omega), (by repeat' (first | exact rfl | exact slot_eq (I_eq (iadd_one (by omega))) | (refine cons_eq ?_ ?_) | assumption)), rfl, rfl, rfl⟩
       · have hlq := nlt_len (f := pcRow) hlj
         have e : inner.take j = inner := List.take_of_length_le (by omega)
         rw [e, ← hS] at hJ hY
         repeat' ((first | refine bt ?_ | refine bf ?_ | refine vb_f (by (first | omega | (simp only [ilt_t, ilt_f, ile_t, ile_f, ieq_t, ieq_f, ofn, List.length_map, Bool.not_eq_true', Bool.not_eq_false'] at *; omega))) ?_ | refine vl ?_ | fail) <;> conv => whnf)
         exact ⟨⟨(k + 1, (s2, m2)), (by omega), hJ, hY⟩, (by simp only; omega), (by repeat' (first | exact rfl | exact slot_eq (I_eq (iadd_one (by omega))) | (refine cons_eq ?_ ?_) | assumption)), rfl, rfl, rfl⟩
   · have q1 : ile (Int.ofNat 3) kd = false := by rw [ile_f, lit3]; omega
     have hJJ : plJ n (.mk kd vn names t c vi inner) = [(Pc.mk kd vn names t c vi inner, (1 : Int))] := if_neg h3
     rw [hJJ] at hS hW
     clear hJJ h0 hi hpi
     repeat' ((first | refine bt ?_ | refine bf ?_ | refine vo_i hg ?_ | refine vl ?_ | fail) <;> conv => whnf)
     refine vloop_cnt (α := Int × Int) 1 (fun j x => fErr size (plN n (l.take k) ++ (([Pc.mk kd vn names t c vi inner]).take j).map fun q => (q, (1 : Int))) = 0 ∧ x = (plN n (l.take k) ++ (([Pc.mk kd vn names t c vi inner]).take j).map fun q => (q, (1 : Int))).foldl (rtRaw size) (0, 0)) (fun j x => [(11, I x.1), (12, I x.2), (16, I (j : Int))]) (sm, mn) (by rw [take_one]; exact ⟨hI, hX⟩) rfl ?_
     intro j y hj hJ
     obtain ⟨s2, m2⟩ := y
     obtain ⟨hJ, hY⟩ := hJ
     conv => whnf
     rcases Nat.lt_or_ge j 1 with hlj | hlj
     · obtain rfl : j = 0 := by omega
       have hlq : ilt ((0 : Nat) : Int) (((1 : Nat) : Int) - ((0 : Nat) : Int)) = true := by rw [ilt_t]; decide
       have hgq : iget (List.drop 0 (List.take 1 [pcRow (Pc.mk kd vn names t c vi inner)])) ((0 : Nat) : Int) = some (pcRow (Pc.mk kd vn names t c vi inner)) := iget_t rfl
       have hgr : ([pcRow (Pc.mk kd vn names t c vi inner)] : List (List DV))[0 + (((0 : Nat) : Int)).toNat]? = some (pcRow (Pc.mk kd vn names t c vi inner)) := rfl
       rw [take_one] at hJ hY
       have hb := rbreadth_ok t size
       have hM := rt_snoc (size := size) (L := plN n (l.take k)) (x := (Pc.mk kd vn names t c vi inner, (1 : Int))) (s := (0, 0))
       by_cases hk2 : kd = 2
       · have u1 : (!ieq kd (Int.ofNat 2)) = false := by rw [Bool.not_eq_false', ieq_t]; exact hk2
         rw [rt_two (show (Pc.mk kd vn names t c vi inner).kind = 2 from hk2), ← hY, ← take_one1] at hM
         by_cases he : (brS t size).2 = 0
         · have u2 : (!ieq (brS t size).2 (Int.ofNat 0)) = false := by rw [Bool.not_eq_false', ieq_t]; exact he
           have hN := fErr_none (q := .mk kd vn names t c vi inner) (t := 1) (fun h => h.2 he) hJ
           rw [← take_one1] at hN
           repeat' ((first | refine bt ?_ | refine bf ?_ | refine vo_i hg ?_ | refine vo_i hgq ?_ | refine vo_i hgr ?_ | refine vpur_i hb ?_ | refine vl ?_ | fail) <;> conv => whnf)
           exact ⟨⟨(1, _), (by omega), hN, hM.symm⟩, (by simp only; omega), (by repeat' (first | exact rfl | exact slot_eq (I_eq (iadd_one (by omega))) | (refine cons_eq ?_ ?_) | assumption)), rfl, rfl, rfl⟩
         · have u2 : (!ieq (brS t size).2 (Int.ofNat 0)) = true := by rw [Bool.not_eq_true', ieq_f]; exact he
           have hF := fErr_one (q := .mk kd vn names t c vi inner) (t := 1) hk2 he hJ (b := plN n (l.drop (k + 1)))
           rw [List.singleton_append] at hW
           rw [← hW] at hF
           rw [tot_err hF he]
           repeat' ((first | refine bt ?_ | refine bf ?_ | refine vo_i hg ?_ | refine vo_i hgq ?_ | refine vo_i hgr ?_ | refine vpur_i hb ?_ | refine vl ?_ | fail) <;> conv => whnf)
           exact ⟨rfl, rfl⟩
       · have u1 : (!ieq kd (Int.ofNat 2)) = true := by rw [Bool.not_eq_true', ieq_f]; exact hk2
         rw [rt_other (show (Pc.mk kd vn names t c vi inner).kind ≠ 2 from hk2), ← hY, ← take_one1] at hM
         have hN := fErr_none (q := .mk kd vn names t c vi inner) (t := 1) (fun h => hk2 h.1) hJ
         rw [← take_one1] at hN
         repeat' ((first | refine bt ?_ | refine bf ?_ | refine vo_i hg ?_ | refine vo_i hgq ?_ | refine vo_i hgr ?_ | refine vl ?_ | fail) <;> conv => whnf)
         exact ⟨⟨(1, (s2, m2)), (by omega), hN, hM.symm⟩, (by simp only; omega), (by repeat' (first | exact rfl | exact slot_eq (I_eq (iadd_one (by omega))) | (refine cons_eq ?_ ?_) | assumption)), rfl, rfl, rfl⟩
     · obtain rfl : j = 1 := by omega
       have hlq : ilt ((1 : Nat) : Int) (((1 : Nat) : Int) - ((0 : Nat) : Int)) = false := by rw [ilt_f]; decide
       rw [take_one1, ← hS] at hJ hY
       repeat' ((first | refine bt ?_ | refine bf ?_ | refine vl ?_ | fail) <;> conv => whnf)
       exact ⟨⟨(k + 1, (s2, m2)), (by omega), hJ, hY⟩, (by simp only; omega), (by repeat' (first | exact rfl | exact slot_eq (I_eq (iadd_one (by omega))) | (refine cons_eq ?_ ?_) | assumption)), rfl, rfl, rfl⟩
 · have hl := nlt_len (f := pcRow) hlt
   have e : l.take k = l := List.take_of_length_le (by omega)
   rw [e] at hI hX
   have hT : totS n size gap l = (iadd .i64 sm (imul .i64 (isub .i64 mn (Int.ofNat 1)) gap), mn, 0) := by unfold totS; rw [if_pos hI, ← hX]
   rw [hT]
   repeat' ((first | refine bt ?_ | refine bf ?_ | refine vb_f (by (first | omega | (simp only [ilt_t, ilt_f, ile_t, ile_f, ieq_t, ieq_f, ofn, List.length_map, Bool.not_eq_true', Bool.not_eq_false'] at *; omega))) ?_ | refine vl ?_ | fail) <;> conv => whnf)
   exact ⟨rfl, rfl⟩
end Go.Proofs.YtkljckbaenbjeaaGreatDoor.Ab
namespace Go.Proofs.YtkljckbaenbjeaaGreatDoor.Ab
open Go
set_option linter.unusedSimpArgs false
set_option linter.unusedVariables false
theorem imax_t {a b : Int} : imax a b = max a b := by rw [imax_d]; split <;> omega
theorem imin_t {a b : Int} : imin a b = min a b := by rw [imin_d]; split <;> omega
theorem thr_iff {S0 S1 M0 M1 X m : Int} (h1 : 0 < S1) (h2 : 0 < M1) (hm : 2 ≤ m) : (S0 + m * S1 ≤ X ∧ M0 + m * M1 ≤ 10000) ↔ m ≤ max 1 (min ((X - S0) / S1) ((10000 - M0) / M1)) := by
 have e1 := Int.le_ediv_iff_mul_le (a := m) (b := X - S0) h1
 have e2 := Int.le_ediv_iff_mul_le (a := m) (b := 10000 - M0) h2
 generalize (X - S0) / S1 = a at e1 ⊢
 generalize (10000 - M0) / M1 = b at e2 ⊢
 omega
theorem thr_le {S0 S1 M0 M1 X : Int} (h2 : 0 < M1) (h3 : 0 ≤ M0) : max 1 (min ((X - S0) / S1) ((10000 - M0) / M1)) ≤ 10000 := by
 have e2 : (10000 - M0) / M1 ≤ 10000 := by
  have h := Int.ediv_le_ediv (a := 10000 - M0) (b := 10000) h2 (by omega)
  have h' := Int.ediv_le_self (a := 10000) M1 (by decide)
  omega
 omega
end Go.Proofs.YtkljckbaenbjeaaGreatDoor.Ab
namespace Go.Proofs.YtkljckbaenbjeaaGreatDoor.Ab
open Go
set_option linter.unusedSimpArgs false
set_option linter.unusedVariables false
theorem pct_le {m b : Int} : (pct m b).1 ≤ 68719476736 := by
 unfold pct
 split
 · split
   · rename_i h; simp [isPx] at h; exact h.2
   · decide
 · decide
theorem lenR_le {k n b a : Int} {d : Bool} (h : goodL k n a = true) : (lenR k n b d).1 ≤ 68719476736 := by
 unfold lenR
 by_cases h2 : k = 2
 · rw [if_pos h2]
   unfold goodL at h
   rw [if_pos h2] at h
   unfold within at h
   by_cases hn : n < 0
   · show n ≤ 68719476736; omega
   · rw [if_neg hn, ile_t] at h; exact h
 · rw [if_neg h2]
   split
   · exact pct_le
   · decide
theorem brS_hi (t : Trk) (size : Int) : (brS t size).1 ≤ 68719476736 := by
 unfold brS
 split
 · decide
 · rename_i h
   have h' : fixedT t = true ∧ rightT t = true ∧ withinS size = true := by simpa using h
   have hr : rightT t = true := h'.2.1
   have hf : t.fit = false := by have := h'.1; simp [fixedT] at this; exact this.1
   unfold rightT at hr
   rw [if_neg (by rw [hf]; decide)] at hr
   simp at hr
   have ha := lenR_le (b := size) (d := true) hr.1.2
   have hb := lenR_le (b := size) (d := true) hr.2
   split
   · show (0 : Int) ≤ _; decide
   · split
     · show (0 : Int) ≤ _; decide
     · simp only [imax_t]
       split <;> split <;> omega
theorem brS_lo (t : Trk) (size : Int) (h : (brS t size).2 = 0) : 64 ≤ (brS t size).1 := by
 unfold brS at h ⊢
 split
 · rename_i h1; rw [if_pos h1] at h; cases h
 · rename_i h1
   rw [if_neg h1] at h
   split
   · rename_i h2; rw [if_pos h2] at h; exact (h2 h).elim
   · rename_i h2
     rw [if_neg h2] at h
     split
     · rename_i h3; rw [if_pos h3] at h; exact (h3 h).elim
     · simp only [imax_t]
       split <;> split <;> omega
end Go.Proofs.YtkljckbaenbjeaaGreatDoor.Ab
namespace Go.Proofs.YtkljckbaenbjeaaGreatDoor.Ab
open Go
set_option linter.unusedSimpArgs false
set_option linter.unusedVariables false
def reN (n : Int) (x : Pc × Int) : Pc × Int := (x.1, if x.2 = 0 then n else x.2)
theorem plJ_eq {n : Int} {p : Pc} (h : AloneP p) : plJ n p = (plI p).map (reN n) := by
 unfold plJ plI timesS
 rcases h with ⟨h, _⟩ | ⟨h, _⟩ | ⟨h, h1, _⟩ | ⟨h, _, _, h1⟩
 · rw [if_neg (by omega), if_pos (.inl h)]; simp [reN]
 · rw [if_neg (by omega), if_pos (.inr h)]; simp [reN]
 · have g1 : 3 ≤ p.kind := by omega
   have g2 : ¬ (p.kind = 1 ∨ p.kind = 2) := by omega
   have g3 : ¬ p.count = 0 := by omega
   rw [if_pos g1, if_neg g2, if_pos h, List.map_map]
   refine List.map_congr_left fun q _ => ?_
   simp only [Function.comp, reN, if_neg g3]
 · unfold AutoK at h
   have g1 : 3 ≤ p.kind := by omega
   have g2 : ¬ (p.kind = 1 ∨ p.kind = 2) := by omega
   have g4 : ¬ p.kind = 3 := by omega
   rw [if_pos g1, if_neg g2, if_neg g4, List.map_map]
   refine List.map_congr_left fun q _ => ?_
   simp only [Function.comp, reN, if_pos h1]
theorem plN_eq {n : Int} {l : List Pc} (h : ∀ p ∈ l, AloneP p) : plN n l = (plP l).map (reN n) := by
 induction l with
 | nil => rfl
 | cons p l ih =>
  simp only [plN, plP, List.map_append]
  rw [plJ_eq (h p (List.mem_cons_self ..)), ih fun q hq => h q (List.mem_cons_of_mem _ hq)]
theorem fErr_reN {size n : Int} {l : List (Pc × Int)} : fErr size (l.map (reN n)) = fErr size l := by
 induction l with
 | nil => rfl
 | cons x l ih => simp only [List.map_cons, fErr, reN, ih]
end Go.Proofs.YtkljckbaenbjeaaGreatDoor.Ab
namespace Go.Proofs.YtkljckbaenbjeaaGreatDoor.Ab
open Go
set_option linter.unusedSimpArgs false
set_option linter.unusedVariables false
theorem brS_nn (t : Trk) (size : Int) : 0 ≤ (brS t size).1 := by
 unfold brS
 split
 · decide
 · split
   · show (0 : Int) ≤ 0; decide
   · split
     · show (0 : Int) ≤ 0; decide
     · simp only [imax_t]
       split <;> split <;> omega
def ctU (size gap : Int) (s : Cs) (x : Pc × Int) : Cs :=
 if x.1.kind = 2 then
  if x.2 = 0 then ⟨s.s0, s.s1 + ((brS x.1.t size).1 + gap), s.m0, s.m1 + 1⟩
  else ⟨s.s0 + x.2 * ((brS x.1.t size).1 + gap), s.s1, s.m0 + x.2, s.m1⟩
 else s
def CsB (k : Nat) (s : Cs) : Prop := 0 ≤ s.s0 ∧ s.s0 ≤ k * 1374389534720000 ∧ 0 ≤ s.s1 ∧ s.s1 ≤ k * 1374389534720000 ∧ 0 ≤ s.m0 ∧ s.m0 ≤ k * 10000 ∧ 0 ≤ s.m1 ∧ s.m1 ≤ k * 10000
theorem mul_hi {t w : Int} (h0 : 0 ≤ t) (h1 : t ≤ 10000) (h2 : 0 ≤ w) (h3 : w ≤ 137438953472) : 0 ≤ t * w ∧ t * w ≤ 1374389534720000 := by
 refine ⟨Int.mul_nonneg h0 h2, ?_⟩
 have := Int.mul_le_mul h1 h3 h2 (by decide : (0 : Int) ≤ 10000)
 omega
theorem mul_hi2 {t w : Int} (h0 : 0 ≤ t) (h1 : t ≤ 2560000) (h2 : 0 ≤ w) (h3 : w ≤ 68719476736) : 0 ≤ t * w ∧ t * w ≤ 175921860444160000 := by
 refine ⟨Int.mul_nonneg h0 h2, ?_⟩
 have := Int.mul_le_mul h1 h3 h2 (by decide : (0 : Int) ≤ 2560000)
 omega
theorem ct_step {size gap : Int} (hg0 : 0 ≤ gap) (hg1 : gap ≤ 68719476736) {s : Cs} {k : Nat} {x : Pc × Int} (hk : k ≤ 256) (h0 : 0 ≤ x.2) (h1 : x.2 ≤ 10000) (hs : CsB k s) : ctRaw size gap s x = ctU size gap s x ∧ CsB (k + 1) (ctU size gap s x) := by
 obtain ⟨a1, a2, a3, a4, a5, a6, a7, a8⟩ := hs
 have hb := brS_hi x.1.t size
 have hb0 := brS_nn x.1.t size
 unfold ctRaw ctU CsB
 generalize (brS x.1.t size).1 = b at hb hb0
 have hm := mul_hi (t := x.2) (w := b + gap) h0 h1 (by omega) (by omega)
 have e1 : iadd .i64 b gap = b + gap := iadd64 (by omega) (by omega)
 have e2 : imul .i64 (Int.ofNat 1) (b + gap) = b + gap := by rw [imul64 (by rw [o1]; omega) (by rw [o1]; omega), o1]; omega
 have e3 : imul .i64 x.2 (b + gap) = x.2 * (b + gap) := imul64 (by omega) (by omega)
 rw [e1, e2, e3]
 generalize x.2 * (b + gap) = w at hm
 split
 · split
   · have e4 : iadd .i64 s.s1 (b + gap) = s.s1 + (b + gap) := iadd64 (by omega) (by omega)
     have e5 : iadd .i64 s.m1 (Int.ofNat 1) = s.m1 + 1 := by rw [iadd64 (by rw [o1]; omega) (by rw [o1]; omega), o1]
     rw [e4, e5]
     exact ⟨rfl, by simp only; omega⟩
   · have e4 : iadd .i64 s.s0 w = s.s0 + w := iadd64 (by omega) (by omega)
     have e5 : iadd .i64 s.m0 x.2 = s.m0 + x.2 := iadd64 (by omega) (by omega)
     rw [e4, e5]
     exact ⟨rfl, by simp only; omega⟩
 · exact ⟨rfl, by omega⟩
theorem ct_eq {size gap : Int} (hg0 : 0 ≤ gap) (hg1 : gap ≤ 68719476736) : ∀ (L : List (Pc × Int)) (s : Cs) (k : Nat), k + L.length ≤ 256 → (∀ x ∈ L, 0 ≤ x.2 ∧ x.2 ≤ 10000) → CsB k s → L.foldl (ctRaw size gap) s = L.foldl (ctU size gap) s ∧ CsB (k + L.length) (L.foldl (ctU size gap) s)
 | [], s, k, _, _, hs => ⟨rfl, hs⟩
 | x :: L, s, k, hk, hall, hs => by
  simp only [List.length_cons] at hk
  obtain ⟨e1, e2⟩ := ct_step hg0 hg1 (x := x) (size := size) (by omega) (hall x (List.mem_cons_self ..)).1 (hall x (List.mem_cons_self ..)).2 hs
  obtain ⟨e3, e4⟩ := ct_eq (size := size) hg0 hg1 L (ctU size gap s x) (k + 1) (by omega) (fun y hy => hall y (List.mem_cons_of_mem _ hy)) e2
  simp only [List.foldl_cons, List.length_cons]
  rw [e1, e3]
  refine ⟨rfl, ?_⟩
  rw [show k + (L.length + 1) = k + 1 + L.length by omega]
  exact e4
def rtU (size : Int) (s : Int × Int) (x : Pc × Int) : Int × Int := if x.1.kind = 2 then (s.1 + x.2 * (brS x.1.t size).1, s.2 + x.2) else s
def RsB (k : Nat) (s : Int × Int) : Prop := 0 ≤ s.1 ∧ s.1 ≤ k * 1374389534720000 ∧ 0 ≤ s.2 ∧ s.2 ≤ k * 10000
theorem rt_step {size : Int} {s : Int × Int} {k : Nat} {x : Pc × Int} (hk : k ≤ 256) (h0 : 0 ≤ x.2) (h1 : x.2 ≤ 10000) (hs : RsB k s) : rtRaw size s x = rtU size s x ∧ RsB (k + 1) (rtU size s x) := by
 obtain ⟨a1, a2, a3, a4⟩ := hs
 have hb := brS_hi x.1.t size
 have hb0 := brS_nn x.1.t size
 unfold rtRaw rtU RsB
 generalize (brS x.1.t size).1 = b at hb hb0
 have hm := mul_hi (t := x.2) (w := b) h0 h1 (by omega) (by omega)
 have e3 : imul .i64 x.2 b = x.2 * b := imul64 (by omega) (by omega)
 rw [e3]
 generalize x.2 * b = w at hm
 split
 · have e4 : iadd .i64 s.1 w = s.1 + w := iadd64 (by omega) (by omega)
   have e5 : iadd .i64 s.2 x.2 = s.2 + x.2 := iadd64 (by omega) (by omega)
   rw [e4, e5]
   exact ⟨rfl, by simp only; omega⟩
 · exact ⟨rfl, by omega⟩
theorem rt_eq {size : Int} : ∀ (L : List (Pc × Int)) (s : Int × Int) (k : Nat), k + L.length ≤ 256 → (∀ x ∈ L, 0 ≤ x.2 ∧ x.2 ≤ 10000) → RsB k s → L.foldl (rtRaw size) s = L.foldl (rtU size) s ∧ RsB (k + L.length) (L.foldl (rtU size) s)
 | [], s, k, _, _, hs => ⟨rfl, hs⟩
 | x :: L, s, k, hk, hall, hs => by
  simp only [List.length_cons] at hk
  obtain ⟨e1, e2⟩ := rt_step (x := x) (size := size) (by omega) (hall x (List.mem_cons_self ..)).1 (hall x (List.mem_cons_self ..)).2 hs
  obtain ⟨e3, e4⟩ := rt_eq (size := size) L (rtU size s x) (k + 1) (by omega) (fun y hy => hall y (List.mem_cons_of_mem _ hy)) e2
  simp only [List.foldl_cons, List.length_cons]
  rw [e1, e3]
  refine ⟨rfl, ?_⟩
  rw [show k + (L.length + 1) = k + 1 + L.length by omega]
  exact e4
theorem rt_ct {size gap n : Int} : ∀ (L : List (Pc × Int)) (C : Cs) (s : Int × Int), s.2 = C.m0 + n * C.m1 → s.1 + s.2 * gap = C.s0 + n * C.s1 →
 ((L.map (reN n)).foldl (rtU size) s).2 = (L.foldl (ctU size gap) C).m0 + n * (L.foldl (ctU size gap) C).m1 ∧
 ((L.map (reN n)).foldl (rtU size) s).1 + ((L.map (reN n)).foldl (rtU size) s).2 * gap = (L.foldl (ctU size gap) C).s0 + n * (L.foldl (ctU size gap) C).s1
 | [], C, s, h1, h2 => ⟨h1, h2⟩
 | x :: L, C, s, h1, h2 => by
  simp only [List.map_cons, List.foldl_cons]
  refine rt_ct L _ _ ?_ ?_
  · unfold rtU ctU reN
    simp only
    split
    · split
      · simp only [Int.mul_add, Int.mul_one]; omega
      · simp only; omega
    · exact h1
  · unfold rtU ctU reN
    simp only
    generalize (brS x.1.t size).1 = b
    split
    · split
      · simp only [Int.mul_add, Int.add_mul]; omega
      · simp only [Int.mul_add, Int.add_mul]; omega
    · exact h2
theorem plI_len {p : Pc} (h : AloneP p) : (plI p).length ≤ 1 + (if RepK p.kind then p.inner.length else 0) := by
 unfold plI
 split
 · simp
 · rename_i hk
   have hr : RepK p.kind := by
    rcases h with ⟨h, _⟩ | ⟨h, _⟩ | ⟨h, _⟩ | ⟨h, _⟩
    · exact (hk (.inl h)).elim
    · exact (hk (.inr h)).elim
    · exact .inl h
    · exact .inr h
   rw [if_pos hr, List.length_map]; omega
theorem plP_len {l : List Pc} (h : ∀ p ∈ l, AloneP p) : (plP l).length ≤ l.length + innN l := by
 induction l with
 | nil => simp [plP, innN]
 | cons p l ih =>
  have := plI_len (h p (List.mem_cons_self ..))
  have := ih fun q hq => h q (List.mem_cons_of_mem _ hq)
  simp only [plP, innN, List.length_append, List.length_cons]; omega
theorem mem_plP {l : List Pc} {x : Pc × Int} : x ∈ plP l ↔ ∃ p ∈ l, x ∈ plI p := by
 induction l with
 | nil => simp [plP]
 | cons p l ih => simp only [plP, List.mem_append, List.mem_cons, exists_eq_or_imp, ih]
theorem plI_times {p : Pc} (h : AloneP p) : ∀ x ∈ plI p, 0 ≤ x.2 ∧ x.2 ≤ 10000 := by
 intro x hx
 unfold plI at hx
 split at hx
 · obtain rfl := List.mem_singleton.1 hx
   exact ⟨by simp, by simp⟩
 · rename_i hk
   obtain ⟨q, _, rfl⟩ := List.mem_map.1 hx
   show 0 ≤ p.count ∧ p.count ≤ 10000
   rcases h with ⟨h, _⟩ | ⟨h, _⟩ | ⟨h, h1, h2, _⟩ | ⟨h, _, _, h1⟩
   · exact (hk (.inl h)).elim
   · exact (hk (.inr h)).elim
   · omega
   · omega
theorem fErr_all {size : Int} {L : List (Pc × Int)} (h : fErr size L = 0) : ∀ x ∈ L, x.1.kind = 2 → (brS x.1.t size).2 = 0 := by
 induction L with
 | nil => intro x hx; cases hx
 | cons y L ih =>
  intro x hx hk
  simp only [fErr] at h
  split at h
  · rename_i h1; exact (h1.2 h).elim
  · rename_i h1
    rcases List.mem_cons.1 hx with rfl | hx
    · exact Decidable.byContradiction fun he => h1 ⟨hk, he⟩
    · exact ih h x hx hk
theorem auto_track {l : List Pc} (hG : GoodP l) (hA : ∃ p ∈ l, AutoK p.kind) : ∃ x ∈ plP l, x.1.kind = 2 ∧ x.2 = 0 := by
 obtain ⟨p, hp, ha⟩ := hA
 rcases hG with rfl | ⟨h1, h2, h3, h4, h5⟩
 · cases hp
 · have hr : RepK p.kind := .inr ha
   have hL := h2 p hp hr
   obtain ⟨i, q, hq, hk⟩ := hL.2.1
   obtain ⟨g1, g2, g3⟩ := hL.1 i q hq
   have hq2 : q.kind = 2 := by
    rcases g1 with ⟨h, _⟩ | ⟨h, _⟩ | ⟨h, _⟩ | ⟨h, _⟩
    · exact (hk h).elim
    · exact h
    · exact (g2 ⟨rfl, .inl h⟩).elim
    · exact (g2 ⟨rfl, .inr h⟩).elim
   obtain ⟨j, hj⟩ := List.getElem?_of_mem hp
   have hc : p.count = 0 := by
    rcases (h1.1 j p hj).1 with ⟨h, _⟩ | ⟨h, _⟩ | ⟨h, _⟩ | ⟨h, _, _, h1⟩
    · unfold AutoK at ha; omega
    · unfold AutoK at ha; omega
    · unfold AutoK at ha; omega
    · exact h1
   refine ⟨(q, p.count), mem_plP.2 ⟨p, hp, ?_⟩, hq2, hc⟩
   unfold plI
   rw [if_neg (by unfold AutoK at ha; omega)]
   exact List.mem_map.2 ⟨q, List.mem_of_getElem? hq, rfl⟩
theorem ctU_mono {size gap : Int} (hg0 : 0 ≤ gap) {s : Cs} {x : Pc × Int} : s.s1 ≤ (ctU size gap s x).s1 ∧ s.m1 ≤ (ctU size gap s x).m1 := by
 have hb0 := brS_nn x.1.t size
 unfold ctU
 split
 · split
   · simp only; omega
   · simp only; omega
 · omega
theorem ctU_monoL {size gap : Int} (hg0 : 0 ≤ gap) : ∀ (L : List (Pc × Int)) (s : Cs), s.s1 ≤ (L.foldl (ctU size gap) s).s1 ∧ s.m1 ≤ (L.foldl (ctU size gap) s).m1
 | [], s => ⟨Int.le_refl _, Int.le_refl _⟩
 | x :: L, s => by
  have h1 := ctU_mono (size := size) hg0 (s := s) (x := x)
  have h2 := ctU_monoL (size := size) hg0 L (ctU size gap s x)
  simp only [List.foldl_cons]; omega
theorem ctU_pos {size gap : Int} (hg0 : 0 ≤ gap) : ∀ (L : List (Pc × Int)) (s : Cs), 0 ≤ s.s1 → 0 ≤ s.m1 → (∀ x ∈ L, x.1.kind = 2 → (brS x.1.t size).2 = 0) → (∃ x ∈ L, x.1.kind = 2 ∧ x.2 = 0) → 0 < (L.foldl (ctU size gap) s).s1 ∧ 0 < (L.foldl (ctU size gap) s).m1
 | [], s, _, _, _, h => by obtain ⟨x, hx, _⟩ := h; cases hx
 | y :: L, s, h1, h2, h3, h4 => by
  have h5 := ctU_mono (size := size) hg0 (s := s) (x := y)
  obtain ⟨x, hx, hk, h0⟩ := h4
  simp only [List.foldl_cons]
  rcases List.mem_cons.1 hx with rfl | hx
  · have h6 := ctU_monoL (size := size) hg0 L (ctU size gap s x)
    have h7 := brS_lo x.1.t size (h3 x (List.mem_cons_self ..) hk)
    have h8 : ctU size gap s x = ⟨s.s0, s.s1 + ((brS x.1.t size).1 + gap), s.m0, s.m1 + 1⟩ := by unfold ctU; rw [if_pos hk, if_pos h0]
    have h9 : (ctU size gap s x).s1 = s.s1 + ((brS x.1.t size).1 + gap) := by rw [h8]
    have h10 : (ctU size gap s x).m1 = s.m1 + 1 := by rw [h8]
    omega
  · exact ctU_pos hg0 L _ (by omega) (by omega) (fun z hz => h3 z (List.mem_cons_of_mem _ hz)) ⟨x, hx, hk, h0⟩
end Go.Proofs.YtkljckbaenbjeaaGreatDoor.Ab
namespace Go.Proofs.YtkljckbaenbjeaaGreatDoor.Ab
open Go
set_option linter.unusedSimpArgs false
set_option maxRecDepth 100000
set_option linter.unusedVariables false
set_option maxHeartbeats 8000000
theorem plain_ok (v : DV) : CallsTo F0 31 [.d v] [] .no ⟨.ret (.fn .drop 60 [] [.ptr 0 0]), [slc v], .no⟩ := by
 refine calls_code code31_ok ?_
 conv => whnf
 repeat' ((first | refine bt ?_ | refine bf ?_ | refine vl ?_ | fail) <;> conv => whnf)
 exact rfl
theorem countE_ok (l : List Pc) (hs : Sm2 l) (size gap : Int) (hG : GoodP l) (h1 : withinS size = true) (h2 : withinS gap = true) (hA : ∃ p ∈ l, AutoK p.kind) (he : fErr size (plP l) ≠ 0) :
 Pur F0 12 [.d (.sl 11 (l.map pcRow)), I size, B true, I gap] [] .no (.ret (.tup [I 0, I (fErr size (plP l))])) .no := by
 have hg := tgood_ok l _ (.inr rfl) hs
 rw [pb_t hG] at hg
 have hw1 := ewithin_ok size
 have hw2 := ewithin_ok gap
 rw [h1] at hw1
 rw [h2] at hw2
 have hc := drp_of_pur (containsP_ok l hs.1.1)
 rw [pb_t hA] at hc
 have hx : (!true) = false := rfl
 obtain ⟨c, g, rc', hp, rfl, rfl, hE⟩ := plain1_some l hs.1.1 (fun p hp => ⟨(hs.1.2 p hp).1, (hs.1.2 p hp).2.2⟩) size gap
 obtain ⟨s, rfl⟩ : ∃ s : Cs, g = cthP 2 (.sl 11 (l.map pcRow)) size gap 0 (fErr size (plP l)) s := by
  rcases hE with ⟨h, _⟩ | ⟨_, h⟩
  · exact (he h).elim
  · exact h
 refine pur_code code12_ok ?_
 conv => whnf
 repeat' ((first | refine bt ?_ | refine bf ?_ | refine vpur_i hg ?_ | refine vpur_i hw1 ?_ | refine vpur_i hw2 ?_ | refine vdrp_i hc ?_ | refine vcall_i (plain_ok _) ?_ | refine vdrp_i hp ?_ | refine vl ?_ | fail) <;> conv => whnf)
 exact ⟨rfl, rfl⟩
theorem countF_ok (l : List Pc) (hs : Sm2 l) (size gap d1 d2 : Int) (hG : GoodP l) (h1 : withinS size = true) (h2 : withinS gap = true) (hA : ∃ p ∈ l, AutoK p.kind) (he : fErr size (plP l) = 0)
 (hd1 : Pur F0 33 [I (isub .i64 (iadd .i64 size gap) ((plP l).foldl (ctRaw size gap) ⟨0, 0, 0, 0⟩).s0), I ((plP l).foldl (ctRaw size gap) ⟨0, 0, 0, 0⟩).s1] [] .no (.ret (I d1)) .no)
 (hd2 : Pur F0 33 [I (isub .i64 (Int.ofNat 10000) ((plP l).foldl (ctRaw size gap) ⟨0, 0, 0, 0⟩).m0), I ((plP l).foldl (ctRaw size gap) ⟨0, 0, 0, 0⟩).m1] [] .no (.ret (I d2)) .no) :
 Pur F0 12 [.d (.sl 11 (l.map pcRow)), I size, B true, I gap] [] .no (.ret (.tup [I (imax (Int.ofNat 1) (imin d1 d2)), I 0])) .no := by
 have hg := tgood_ok l _ (.inr rfl) hs
 rw [pb_t hG] at hg
 have hw1 := ewithin_ok size
 have hw2 := ewithin_ok gap
 rw [h1] at hw1
 rw [h2] at hw2
 have hc := drp_of_pur (containsP_ok l hs.1.1)
 rw [pb_t hA] at hc
 have hx : (!true) = false := rfl
 obtain ⟨c, g, rc', hp, rfl, rfl, hE⟩ := plain1_some l hs.1.1 (fun p hp => ⟨(hs.1.2 p hp).1, (hs.1.2 p hp).2.2⟩) size gap
 obtain rfl : g = hct (.sl 11 (l.map pcRow)) size gap (plP l) := by
  rcases hE with ⟨_, h⟩ | ⟨h, _⟩
  · exact h
  · exact (h he).elim
 clear hE
 refine pur_code code12_ok ?_
 conv => whnf
 repeat' ((first | refine bt ?_ | refine bf ?_ | refine vpur_i hg ?_ | refine vpur_i hw1 ?_ | refine vpur_i hw2 ?_ | refine vdrp_i hc ?_ | refine vcall_i (plain_ok _) ?_ | refine vdrp_i hp ?_ | refine vb_t ix1 ?_ | refine vb_t ix0 ?_ | refine vpur_i hd1 ?_ | refine vpur_i hd2 ?_ | refine vl ?_ | fail) <;> conv => whnf)
 exact ⟨rfl, rfl⟩
theorem count_nd (l : List Pc) (hs : Sm2 l) (size gap : Int) (hG : GoodP l) (h1 : withinS size = true) (h2 : withinS gap = true) (hA : ∃ p ∈ l, AutoK p.kind) :
 Pur F0 12 [.d (.sl 11 (l.map pcRow)), I size, B false, I gap] [] .no (.ret (.tup [I 1, I 0])) .no := by
 have hg := tgood_ok l _ (.inr rfl) hs
 rw [pb_t hG] at hg
 have hw1 := ewithin_ok size
 have hw2 := ewithin_ok gap
 rw [h1] at hw1
 rw [h2] at hw2
 have hc := drp_of_pur (containsP_ok l hs.1.1)
 rw [pb_t hA] at hc
 have hx : (!true) = false := rfl
 have hy : (!false) = true := rfl
 refine pur_code code12_ok ?_
 conv => whnf
 repeat' ((first | refine bt ?_ | refine bf ?_ | refine vpur_i hg ?_ | refine vpur_i hw1 ?_ | refine vpur_i hw2 ?_ | refine vdrp_i hc ?_ | refine vl ?_ | fail) <;> conv => whnf)
 exact ⟨rfl, rfl⟩
theorem count_na (l : List Pc) (hs : Sm2 l) (size gap : Int) (b : Bool) (hG : GoodP l) (h1 : withinS size = true) (h2 : withinS gap = true) (hA : ¬ ∃ p ∈ l, AutoK p.kind) :
 Pur F0 12 [.d (.sl 11 (l.map pcRow)), I size, B b, I gap] [] .no (.ret (.tup [I 0, I 0])) .no := by
 have hg := tgood_ok l _ (.inr rfl) hs
 rw [pb_t hG] at hg
 have hw1 := ewithin_ok size
 have hw2 := ewithin_ok gap
 rw [h1] at hw1
 rw [h2] at hw2
 have hc := drp_of_pur (containsP_ok l hs.1.1)
 rw [pb_f hA] at hc
 have hx : (!true) = false := rfl
 have hy : (!false) = true := rfl
 refine pur_code code12_ok ?_
 conv => whnf
 repeat' ((first | refine bt ?_ | refine bf ?_ | refine vpur_i hg ?_ | refine vpur_i hw1 ?_ | refine vpur_i hw2 ?_ | refine vdrp_i hc ?_ | refine vl ?_ | fail) <;> conv => whnf)
 exact ⟨rfl, rfl⟩
theorem count_arg (l : List Pc) (v : DV) (hv : SlV 11 (l.map pcRow) v) (hs : Sm2 l) (size gap : Int) (b : Bool) (h : ¬ (GoodP l ∧ withinS size = true ∧ withinS gap = true)) :
 Pur F0 12 [.d v, I size, B b, I gap] [] .no (.ret (.tup [I 0, I 2])) .no := by
 have hg := tgood_ok l v hv hs
 have hw1 := ewithin_ok size
 have hw2 := ewithin_ok gap
 have hx : (!true) = false := rfl
 have hy : (!false) = true := rfl
 by_cases hG : GoodP l
 · rw [pb_t hG] at hg
   cases e1 : withinS size with
   | false =>
    rw [e1] at hw1
    refine pur_code code12_ok ?_
    conv => whnf
    repeat' ((first | refine bt ?_ | refine bf ?_ | refine vpur_i hg ?_ | refine vpur_i hw1 ?_ | refine vpur_i hw2 ?_ | refine vl ?_ | fail) <;> conv => whnf)
    exact ⟨rfl, rfl⟩
   | true =>
    rw [e1] at hw1
    have e2 : withinS gap = false := by
     cases e2 : withinS gap with
     | false => rfl
     | true => exact (h ⟨hG, e1, e2⟩).elim
    rw [e2] at hw2
    refine pur_code code12_ok ?_
    conv => whnf
    repeat' ((first | refine bt ?_ | refine bf ?_ | refine vpur_i hg ?_ | refine vpur_i hw1 ?_ | refine vpur_i hw2 ?_ | refine vl ?_ | fail) <;> conv => whnf)
    exact ⟨rfl, rfl⟩
 · rw [pb_f hG] at hg
   refine pur_code code12_ok ?_
   conv => whnf
   repeat' ((first | refine bt ?_ | refine bf ?_ | refine vpur_i hg ?_ | refine vpur_i hw1 ?_ | refine vpur_i hw2 ?_ | refine vl ?_ | fail) <;> conv => whnf)
   exact ⟨rfl, rfl⟩
end Go.Proofs.YtkljckbaenbjeaaGreatDoor.Ab
namespace Go.Proofs.YtkljckbaenbjeaaGreatDoor.Ab
open Go
set_option linter.unusedSimpArgs false
set_option maxRecDepth 100000
set_option linter.unusedVariables false
set_option maxHeartbeats 8000000
def RoomP (l : List Pc) (size gap n : Int) : Prop := (totS n size gap l).1 ≤ size ∧ (totS n size gap l).2.1 ≤ 10000
theorem rcountF_ok (l : List Pc) (hs : Sm2 l) (size gap : Int) (D : Nat) (hG : GoodP l) (h1 : withinS size = true) (h2 : withinS gap = true) (hA : ∃ p ∈ l, AutoK p.kind) (he : (totS (Int.ofNat 1) size gap l).2.2 = 0)
 (hD1 : 1 ≤ D) (hD2 : D ≤ 10000) (hD : ∀ m : Nat, 2 ≤ m → m ≤ 10000 → (RoomP l size gap (m : Int) ↔ m ≤ D)) :
 Pur F0 16 [.d (.sl 11 (l.map pcRow)), I size, B true, I gap] [] .no (.ret (.tup [I (D : Int), I 0])) .no := by
 have hg := rtgood_ok l _ (.inr rfl) hs
 rw [pb_t hG] at hg
 have hw1 := rwithin_ok size
 have hw2 := rwithin_ok gap
 rw [h1] at hw1
 rw [h2] at hw2
 have ha := rauto_ok l hs.1.1
 rw [pb_t hA] at ha
 have hall : ∀ p ∈ l, PcOk p ∧ p.inner.length ≤ 1000000 := fun p hp => ⟨(hs.1.2 p hp).1, (hs.1.2 p hp).2.2⟩
 have ht1 := rtotal_ok l hs.1.1 hall (Int.ofNat 1) size gap
 have u2 : (!ieq (totS (Int.ofNat 1) size gap l).2.2 (Int.ofNat 0)) = false := by rw [Bool.not_eq_false', ieq_t]; exact he
 have hx : (!true) = false := rfl
 have hz2 : iz (Int.ofNat 2) = false := by rw [iz_f]; decide
 refine pur_code code16_ok ?_
 conv => whnf
 repeat' ((first | refine bt ?_ | refine bf ?_ | refine vpur_i hg ?_ | refine vpur_i hw1 ?_ | refine vpur_i hw2 ?_ | refine vpur_i ha ?_ | refine vpur_i ht1 ?_ | refine vl ?_ | fail) <;> conv => whnf)
 refine vloop_cnt (α := Nat × Nat) 10000 (fun k x => 1 ≤ x.1 ∧ x.1 ≤ D ∧ D < x.2 ∧ x.2 ≤ 10001 ∧ k + (x.2 - x.1) = 10000) (fun k x => [(13, I (x.1 : Int)), (14, I (x.2 : Int))]) (1, 10001) ⟨by omega, by omega, by simp only; omega, by omega, by omega⟩ rfl ?_
 intro k x hk hI
 obtain ⟨lo, hi⟩ := x
 obtain ⟨i1, i2, i3, i4, i5⟩ := hI
 simp only at i1 i2 i3 i4 i5
 conv => whnf
 have hsub : isub .i64 (hi : Int) (lo : Int) = ((hi - lo : Nat) : Int) := by rw [isub64 (by omega) (by omega)]; omega
 by_cases hlt : 1 < hi - lo
 · have w1 : ilt (Int.ofNat 1) (isub .i64 (hi : Int) (lo : Int)) = true := by rw [hsub, ilt_t, lit1]; omega
   have hq : iquo .i64 (iadd .i64 (lo : Int) (hi : Int)) (Int.ofNat 2) = (((lo + hi) / 2 : Nat) : Int) := by
    rw [iadd64 (by omega) (by omega), iquo64 (by decide) (by omega) (by omega)]
    show ((lo : Int) + (hi : Int)).tdiv ((2 : Nat) : Int) = _
    rw [← Int.natCast_add]; rfl
   have hT := rtotal_ok l hs.1.1 hall (iquo .i64 (iadd .i64 (lo : Int) (hi : Int)) (Int.ofNat 2)) size gap
   have hR := hD ((lo + hi) / 2) (by omega) (by omega)
   rw [← hq] at hR
   unfold RoomP at hR
   cases e1 : ile (totS (iquo .i64 (iadd .i64 (lo : Int) (hi : Int)) (Int.ofNat 2)) size gap l).1 size with
   | true =>
    cases e2 : ile (totS (iquo .i64 (iadd .i64 (lo : Int) (hi : Int)) (Int.ofNat 2)) size gap l).2.1 (Int.ofNat 10000) with
    | true =>
     have hm := hR.1 ⟨by rw [ile_t] at e1; exact e1, by rw [ile_t] at e2; exact e2⟩
     repeat' ((first | refine bt ?_ | refine bf ?_ | refine vpur_i hT ?_ | refine vl ?_ | fail) <;> conv => whnf)
     exact ⟨⟨(10000 - (hi - (lo + hi) / 2), ((lo + hi) / 2, hi)), (by omega), (by simp only; omega)⟩, (by simp only; omega), (by repeat' (first | exact rfl | exact slot_eq (I_eq hq) | (refine cons_eq ?_ ?_))), rfl, rfl, rfl⟩
    | false =>
     have hm : ¬ (lo + hi) / 2 ≤ D := fun h => by have := (hR.2 h).2; rw [ile_f] at e2; exact absurd e2 (Int.not_lt.2 this)
     repeat' ((first | refine bt ?_ | refine bf ?_ | refine vpur_i hT ?_ | refine vl ?_ | fail) <;> conv => whnf)
     exact ⟨⟨(10000 - ((lo + hi) / 2 - lo), (lo, (lo + hi) / 2)), (by omega), (by simp only; omega)⟩, (by simp only; omega), (by repeat' (first | exact rfl | exact slot_eq (I_eq hq) | (refine cons_eq ?_ ?_))), rfl, rfl, rfl⟩
   | false =>
    have hm : ¬ (lo + hi) / 2 ≤ D := fun h => by have := (hR.2 h).1; rw [ile_f] at e1; exact absurd e1 (Int.not_lt.2 this)
    repeat' ((first | refine bt ?_ | refine bf ?_ | refine vpur_i hT ?_ | refine vl ?_ | fail) <;> conv => whnf)
    exact ⟨⟨(10000 - ((lo + hi) / 2 - lo), (lo, (lo + hi) / 2)), (by omega), (by simp only; omega)⟩, (by simp only; omega), (by repeat' (first | exact rfl | exact slot_eq (I_eq hq) | (refine cons_eq ?_ ?_))), rfl, rfl, rfl⟩
 · have w1 : ilt (Int.ofNat 1) (isub .i64 (hi : Int) (lo : Int)) = false := by rw [hsub, ilt_f, lit1]; omega
   obtain rfl : lo = D := by omega
   repeat' ((first | refine bt ?_ | refine bf ?_ | refine vl ?_ | fail) <;> conv => whnf)
   exact ⟨rfl, rfl⟩
theorem rcountE_ok (l : List Pc) (hs : Sm2 l) (size gap : Int) (hG : GoodP l) (h1 : withinS size = true) (h2 : withinS gap = true) (hA : ∃ p ∈ l, AutoK p.kind) (he : (totS (Int.ofNat 1) size gap l).2.2 ≠ 0) :
 Pur F0 16 [.d (.sl 11 (l.map pcRow)), I size, B true, I gap] [] .no (.ret (.tup [I 0, I (totS (Int.ofNat 1) size gap l).2.2])) .no := by
 have hg := rtgood_ok l _ (.inr rfl) hs
 rw [pb_t hG] at hg
 have hw1 := rwithin_ok size
 have hw2 := rwithin_ok gap
 rw [h1] at hw1
 rw [h2] at hw2
 have ha := rauto_ok l hs.1.1
 have hx : (!true) = false := rfl
 have hy : (!false) = true := rfl
 rw [pb_t hA] at ha
 have hall : ∀ p ∈ l, PcOk p ∧ p.inner.length ≤ 1000000 := fun p hp => ⟨(hs.1.2 p hp).1, (hs.1.2 p hp).2.2⟩
 have ht1 := rtotal_ok l hs.1.1 hall (Int.ofNat 1) size gap
 have u2 : (!ieq (totS (Int.ofNat 1) size gap l).2.2 (Int.ofNat 0)) = true := by rw [Bool.not_eq_true', ieq_f]; exact he
 refine pur_code code16_ok ?_
 conv => whnf
 repeat' ((first | refine bt ?_ | refine bf ?_ | refine vpur_i hg ?_ | refine vpur_i hw1 ?_ | refine vpur_i hw2 ?_ | refine vpur_i ha ?_ | refine vpur_i ht1 ?_ | refine vl ?_ | fail) <;> conv => whnf)
 exact ⟨rfl, rfl⟩
theorem rcount_nd (l : List Pc) (hs : Sm2 l) (size gap : Int) (hG : GoodP l) (h1 : withinS size = true) (h2 : withinS gap = true) (hA : ∃ p ∈ l, AutoK p.kind) :
 Pur F0 16 [.d (.sl 11 (l.map pcRow)), I size, B false, I gap] [] .no (.ret (.tup [I 1, I 0])) .no := by
 have hg := rtgood_ok l _ (.inr rfl) hs
 rw [pb_t hG] at hg
 have hw1 := rwithin_ok size
 have hw2 := rwithin_ok gap
 rw [h1] at hw1
 rw [h2] at hw2
 have ha := rauto_ok l hs.1.1
 have hx : (!true) = false := rfl
 have hy : (!false) = true := rfl
 rw [pb_t hA] at ha
 refine pur_code code16_ok ?_
 conv => whnf
 repeat' ((first | refine bt ?_ | refine bf ?_ | refine vpur_i hg ?_ | refine vpur_i hw1 ?_ | refine vpur_i hw2 ?_ | refine vpur_i ha ?_ | refine vl ?_ | fail) <;> conv => whnf)
 exact ⟨rfl, rfl⟩
theorem rcount_na (l : List Pc) (hs : Sm2 l) (size gap : Int) (b : Bool) (hG : GoodP l) (h1 : withinS size = true) (h2 : withinS gap = true) (hA : ¬ ∃ p ∈ l, AutoK p.kind) :
 Pur F0 16 [.d (.sl 11 (l.map pcRow)), I size, B b, I gap] [] .no (.ret (.tup [I 0, I 0])) .no := by
 have hg := rtgood_ok l _ (.inr rfl) hs
 rw [pb_t hG] at hg
 have hw1 := rwithin_ok size
 have hw2 := rwithin_ok gap
 rw [h1] at hw1
 rw [h2] at hw2
 have ha := rauto_ok l hs.1.1
 have hx : (!true) = false := rfl
 have hy : (!false) = true := rfl
 rw [pb_f hA] at ha
 refine pur_code code16_ok ?_
 conv => whnf
 repeat' ((first | refine bt ?_ | refine bf ?_ | refine vpur_i hg ?_ | refine vpur_i hw1 ?_ | refine vpur_i hw2 ?_ | refine vpur_i ha ?_ | refine vl ?_ | fail) <;> conv => whnf)
 exact ⟨rfl, rfl⟩
theorem rcount_arg (l : List Pc) (v : DV) (hv : SlV 11 (l.map pcRow) v) (hs : Sm2 l) (size gap : Int) (b : Bool) (h : ¬ (GoodP l ∧ withinS size = true ∧ withinS gap = true)) :
 Pur F0 16 [.d v, I size, B b, I gap] [] .no (.ret (.tup [I 0, I 2])) .no := by
 have hg := rtgood_ok l v hv hs
 have hw1 := rwithin_ok size
 have hw2 := rwithin_ok gap
 have hx : (!true) = false := rfl
 have hy : (!false) = true := rfl
 by_cases hG : GoodP l
 · rw [pb_t hG] at hg
   cases e1 : withinS size with
   | false =>
    rw [e1] at hw1
    refine pur_code code16_ok ?_
    conv => whnf
    repeat' ((first | refine bt ?_ | refine bf ?_ | refine vpur_i hg ?_ | refine vpur_i hw1 ?_ | refine vpur_i hw2 ?_ | refine vl ?_ | fail) <;> conv => whnf)
    exact ⟨rfl, rfl⟩
   | true =>
    rw [e1] at hw1
    have e2 : withinS gap = false := by
     cases e2 : withinS gap with
     | false => rfl
     | true => exact (h ⟨hG, e1, e2⟩).elim
    rw [e2] at hw2
    refine pur_code code16_ok ?_
    conv => whnf
    repeat' ((first | refine bt ?_ | refine bf ?_ | refine vpur_i hg ?_ | refine vpur_i hw1 ?_ | refine vpur_i hw2 ?_ | refine vl ?_ | fail) <;> conv => whnf)
    exact ⟨rfl, rfl⟩
 · rw [pb_f hG] at hg
   refine pur_code code16_ok ?_
   conv => whnf
   repeat' ((first | refine bt ?_ | refine bf ?_ | refine vpur_i hg ?_ | refine vpur_i hw1 ?_ | refine vpur_i hw2 ?_ | refine vl ?_ | fail) <;> conv => whnf)
   exact ⟨rfl, rfl⟩
end Go.Proofs.YtkljckbaenbjeaaGreatDoor.Ab
namespace Go.Proofs.YtkljckbaenbjeaaGreatDoor.Ab
open Go
set_option linter.unusedSimpArgs false
set_option maxRecDepth 100000
set_option linter.unusedVariables false
set_option maxHeartbeats 4000000
theorem within_b {n : Int} (h : withinS n = true) : 0 ≤ n ∧ n ≤ 68719476736 := by
 unfold withinS isPx at h
 simp at h
 omega
theorem o10000 : Int.ofNat 10000 = 10000 := rfl
theorem good_alone {l : List Pc} (hG : GoodP l) : (∀ p ∈ l, AloneP p) ∧ l.length + innN l ≤ 256 := by
 rcases hG with rfl | ⟨h1, _, h3, _⟩
 · refine ⟨fun p hp => ?_, ?_⟩
   · cases hp
   · show 0 + 0 ≤ 256
     omega
 · exact ⟨(listed_false.1 h1).2.2, h3⟩
theorem sums_ok (l : List Pc) (size gap : Int) (hG : GoodP l) (h2 : withinS gap = true) : ∃ C : Cs, (plP l).foldl (ctRaw size gap) ⟨0, 0, 0, 0⟩ = C ∧ CsB 256 C ∧
 (fErr size (plP l) = 0 → (∃ p ∈ l, AutoK p.kind) → 0 < C.s1 ∧ 0 < C.m1) ∧
 ∀ n : Int, 1 ≤ n → n ≤ 10000 → fErr size (plP l) = 0 → (totS n size gap l).2.2 = 0 ∧ (totS n size gap l).2.1 = C.m0 + n * C.m1 ∧ (totS n size gap l).1 = C.s0 + n * C.s1 - gap := by
 obtain ⟨hal, hlen⟩ := good_alone hG
 obtain ⟨g0, g1⟩ := within_b h2
 have hl := plP_len hal
 have ht : ∀ x ∈ plP l, 0 ≤ x.2 ∧ x.2 ≤ 10000 := fun x hx => by
  obtain ⟨p, hp, hx⟩ := mem_plP.1 hx
  exact plI_times (hal p hp) x hx
 have hz : CsB 0 ⟨0, 0, 0, 0⟩ := by unfold CsB; simp
 obtain ⟨e1, e2⟩ := ct_eq (size := size) g0 g1 (plP l) ⟨0, 0, 0, 0⟩ 0 (by omega) ht hz
 refine ⟨(plP l).foldl (ctU size gap) ⟨0, 0, 0, 0⟩, e1, ?_, ?_, ?_⟩
 · unfold CsB at e2 ⊢; omega
 · intro hf hA
   exact ctU_pos g0 (plP l) _ (Int.le_refl _) (Int.le_refl _) (fErr_all hf) (auto_track hG hA)
 · intro n n1 n2 hf
   have hr := rt_ct (size := size) (gap := gap) (n := n) (plP l) ⟨0, 0, 0, 0⟩ (0, 0) (by simp) (by simp)
   have hb : RsB 0 (0, 0) := by unfold RsB; simp
   obtain ⟨e3, e4⟩ := rt_eq (size := size) ((plP l).map (reN n)) (0, 0) 0 (by rw [List.length_map]; omega) (fun x hx => by
    obtain ⟨y, hy, rfl⟩ := List.mem_map.1 hx
    have := ht y hy
    unfold reN
    simp only
    split <;> omega) hb
   unfold totS
   rw [plN_eq hal, fErr_reN, if_pos hf, e3]
   generalize ((plP l).map (reN n)).foldl (rtU size) (0, 0) = r at hr e4
   generalize (plP l).foldl (ctU size gap) ⟨0, 0, 0, 0⟩ = C at hr e2
   unfold RsB at e4
   rw [List.length_map] at e4
   have hm := mul_hi2 (t := r.2) (w := gap) e4.2.2.1 (by omega) g0 g1
   have e5 : isub .i64 r.2 (Int.ofNat 1) = r.2 - 1 := by rw [isub64 (by rw [o1]; omega) (by rw [o1]; omega), o1]
   have e6 : (r.2 - 1) * gap = r.2 * gap - gap := by rw [Int.sub_mul, Int.one_mul]
   have e7 : imul .i64 (r.2 - 1) gap = r.2 * gap - gap := by rw [imul64 (by rw [e6]; omega) (by rw [e6]; omega), e6]
   rw [e5, e7]
   have e8 : iadd .i64 r.1 (r.2 * gap - gap) = r.1 + (r.2 * gap - gap) := iadd64 (by omega) (by omega)
   rw [e8]
   refine ⟨rfl, hr.1, ?_⟩
   show r.1 + (r.2 * gap - gap) = _
   omega
theorem count_fill (l : List Pc) (hs : Sm2 l) (size gap : Int) (hG : GoodP l) (h1 : withinS size = true) (h2 : withinS gap = true) (hA : ∃ p ∈ l, AutoK p.kind) :
 ∃ n e : Int, Pur F0 12 [.d (.sl 11 (l.map pcRow)), I size, B true, I gap] [] .no (.ret (.tup [I n, I e])) .no ∧ Pur F0 16 [.d (.sl 11 (l.map pcRow)), I size, B true, I gap] [] .no (.ret (.tup [I n, I e])) .no ∧
  0 ≤ n ∧ (e = 0 → 1 ≤ n ∧ n ≤ 10000 ∧ fErr size (plP l) = 0 ∧ ∀ m : Nat, 2 ≤ m → m ≤ 10000 → (RoomP l size gap (m : Int) ↔ (m : Int) ≤ n)) := by
 by_cases he : fErr size (plP l) = 0
 · obtain ⟨C, e1, e2, e3, e4⟩ := sums_ok l size gap hG h2
   obtain ⟨p1, p2⟩ := e3 he hA
   obtain ⟨s0, s1⟩ := within_b h1
   obtain ⟨g0, g1⟩ := within_b h2
   obtain ⟨a1, a2, a3, a4, a5, a6, a7, a8⟩ := e2
   have u1 : isub .i64 (iadd .i64 size gap) C.s0 = size + gap - C.s0 := by rw [iadd64 (by omega) (by omega), isub64 (by omega) (by omega)]
   have u2 : isub .i64 (Int.ofNat 10000) C.m0 = 10000 - C.m0 := by rw [isub64 (by rw [o10000]; omega) (by rw [o10000]; omega), o10000]
   have d1 := fdiv_ok (size + gap - C.s0) C.s1 p1 (by omega) (by omega)
   have d2 := fdiv_ok (10000 - C.m0) C.m1 p2 (by omega) (by omega)
   rw [← u1] at d1
   rw [← u2] at d2
   have hC := countF_ok l hs size gap _ _ hG h1 h2 hA he (by rw [e1]; exact d1) (by rw [e1]; exact d2)
   rw [u1, u2, imax_t, imin_t, o1] at hC
   have hle := thr_le (S0 := C.s0) (S1 := C.s1) (X := size + gap) p2 a5
   have hiff := fun m hm => thr_iff (S0 := C.s0) (M0 := C.m0) (X := size + gap) (m := m) p1 p2 hm
   obtain ⟨D, hD⟩ : ∃ D : Nat, (D : Int) = max 1 (min ((size + gap - C.s0) / C.s1) ((10000 - C.m0) / C.m1)) := ⟨(max 1 (min ((size + gap - C.s0) / C.s1) ((10000 - C.m0) / C.m1))).toNat, by omega⟩
   rw [← hD] at hC hle hiff
   have hRm : ∀ m : Nat, 2 ≤ m → m ≤ 10000 → (RoomP l size gap (m : Int) ↔ m ≤ D) := fun m m2 m3 => by
    obtain ⟨_, t1, t2⟩ := e4 (m : Int) (by omega) (by omega) he
    have hi := hiff (m : Int) (by omega)
    unfold RoomP
    rw [t1, t2]
    generalize (m : Int) * C.s1 = w at *
    generalize (m : Int) * C.m1 = w' at *
    omega
   have hR := rcountF_ok l hs size gap D hG h1 h2 hA (e4 1 (by omega) (by omega) he).1 (by omega) (by omega) hRm
   exact ⟨_, _, hC, hR, by omega, fun _ => ⟨by omega, by omega, he, fun m m2 m3 => (hRm m m2 m3).trans (by omega)⟩⟩
 · have hal := (good_alone hG).1
   have ht : totS (Int.ofNat 1) size gap l = (0, 0, fErr size (plP l)) := tot_err (by rw [plN_eq hal, fErr_reN]) he
   have hR := rcountE_ok l hs size gap hG h1 h2 hA (by rw [ht]; exact he)
   rw [ht] at hR
   exact ⟨_, _, countE_ok l hs size gap hG h1 h2 hA he, hR, by decide, fun h => (he h).elim⟩
theorem containsN_ok : Pur F0 29 [.d .nilsl, .fn .pure 30 [] []] [] .no (.ret (B false)) .no := pur_closed (n := 100) (by kernel_rfl)
theorem rautoN_ok : Pur F0 37 [.d .nilsl] [] .no (.ret (B false)) .no := pur_closed (n := 100) (by kernel_rfl)
theorem count_nil (size gap : Int) (b : Bool) (h1 : withinS size = true) (h2 : withinS gap = true) :
 Pur F0 12 [.d .nilsl, I size, B b, I gap] [] .no (.ret (.tup [I 0, I 0])) .no := by
 have hw1 := ewithin_ok size
 have hw2 := ewithin_ok gap
 rw [h1] at hw1
 rw [h2] at hw2
 have hc := drp_of_pur containsN_ok
 have hx : (!true) = false := rfl
 have hy : (!false) = true := rfl
 refine pur_code code12_ok ?_
 conv => whnf
 repeat' ((first | refine bt ?_ | refine bf ?_ | refine vpur_i tgood_nil ?_ | refine vpur_i hw1 ?_ | refine vpur_i hw2 ?_ | refine vdrp_i hc ?_ | refine vl ?_ | fail) <;> conv => whnf)
 exact ⟨rfl, rfl⟩
theorem rcount_nil (size gap : Int) (b : Bool) (h1 : withinS size = true) (h2 : withinS gap = true) :
 Pur F0 16 [.d .nilsl, I size, B b, I gap] [] .no (.ret (.tup [I 0, I 0])) .no := by
 have hw1 := rwithin_ok size
 have hw2 := rwithin_ok gap
 rw [h1] at hw1
 rw [h2] at hw2
 have hx : (!true) = false := rfl
 have hy : (!false) = true := rfl
 refine pur_code code16_ok ?_
 conv => whnf
 repeat' ((first | refine bt ?_ | refine bf ?_ | refine vpur_i rtgood_nil ?_ | refine vpur_i hw1 ?_ | refine vpur_i hw2 ?_ | refine vpur_i rautoN_ok ?_ | refine vl ?_ | fail) <;> conv => whnf)
 exact ⟨rfl, rfl⟩
structure CtQ (l : List Pc) (size gap : Int) (b : Bool) (n e : Int) : Prop where
 good : e = 0 → GoodP l ∧ withinS size = true ∧ withinS gap = true ∧ 0 ≤ n ∧ n ≤ 10000
 fill : e = 0 → (∃ p ∈ l, AutoK p.kind) → 1 ≤ n
 none : b = false → n ≤ 1
 pos : 0 ≤ n
 room : e = 0 → b = true → (∃ p ∈ l, AutoK p.kind) → fErr size (plP l) = 0 ∧ ∀ m : Nat, 2 ≤ m → m ≤ 10000 → (RoomP l size gap (m : Int) ↔ (m : Int) ≤ n)
theorem counts_ok2 (l : List Pc) (v : DV) (hv : SlV 11 (l.map pcRow) v) (hs : Sm2 l) (size gap : Int) (b : Bool) :
 ∃ n e : Int, Pur F0 12 [.d v, I size, B b, I gap] [] .no (.ret (.tup [I n, I e])) .no ∧ Pur F0 16 [.d v, I size, B b, I gap] [] .no (.ret (.tup [I n, I e])) .no ∧ CtQ l size gap b n e := by
 by_cases h : GoodP l ∧ withinS size = true ∧ withinS gap = true
 · obtain ⟨hG, h1, h2⟩ := h
   rcases hv with ⟨rfl, hn⟩ | rfl
   · obtain rfl : l = [] := List.map_eq_nil_iff.1 hn
     exact ⟨_, _, count_nil size gap b h1 h2, rcount_nil size gap b h1 h2, ⟨fun _ => ⟨hG, h1, h2, by decide, by decide⟩, (fun _ h => by obtain ⟨p, hp, _⟩ := h; cases hp), fun _ => by decide, by decide, (fun _ _ h => by obtain ⟨p, hp, _⟩ := h; cases hp)⟩⟩
   · by_cases hA : ∃ p ∈ l, AutoK p.kind
     · cases b with
       | true =>
        obtain ⟨n, e, g1, g2, g0, g3⟩ := count_fill l hs size gap hG h1 h2 hA
        exact ⟨n, e, g1, g2, ⟨fun h => ⟨hG, h1, h2, by have := (g3 h).1; omega, (g3 h).2.1⟩, fun h _ => (g3 h).1, (fun h => by cases h), g0, fun h _ _ => (g3 h).2.2⟩⟩
       | false => exact ⟨_, _, count_nd l hs size gap hG h1 h2 hA, rcount_nd l hs size gap hG h1 h2 hA, ⟨fun _ => ⟨hG, h1, h2, by decide, by decide⟩, fun _ _ => by decide, fun _ => by decide, by decide, (fun _ h => by cases h)⟩⟩
     · exact ⟨_, _, count_na l hs size gap b hG h1 h2 hA, rcount_na l hs size gap b hG h1 h2 hA, ⟨fun _ => ⟨hG, h1, h2, by decide, by decide⟩, fun _ h => (hA h).elim, fun _ => by decide, by decide, fun _ _ h => (hA h).elim⟩⟩
 · exact ⟨_, _, count_arg l v hv hs size gap b h, rcount_arg l v hv hs size gap b h, ⟨(fun h => by cases h), (fun h => by cases h), fun _ => by decide, by decide, (fun h => by cases h)⟩⟩
end Go.Proofs.YtkljckbaenbjeaaGreatDoor.Ab
namespace Go.Proofs.YtkljckbaenbjeaaGreatDoor.Ab
open Go
set_option linter.unusedSimpArgs false
set_option maxRecDepth 100000
set_option linter.unusedVariables false
set_option maxHeartbeats 4000000
end Go.Proofs.YtkljckbaenbjeaaGreatDoor.Ab
namespace Go.Proofs.YtkljckbaenbjeaaGreatDoor.Ab
open Go
set_option linter.unusedSimpArgs false
set_option maxRecDepth 100000
set_option linter.unusedVariables false
set_option maxHeartbeats 4000000
def tsW (ts : List Trk) : DV := match ts with
 | [] => .nilsl
 | ts => .sl 7 (ts.map trkRow)
end Go.Proofs.YtkljckbaenbjeaaGreatDoor.Ab
