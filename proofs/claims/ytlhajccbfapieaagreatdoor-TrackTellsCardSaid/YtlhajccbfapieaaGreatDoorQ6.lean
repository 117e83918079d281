/- Some texts as one, one behind the other; what is not leaned on is left out. -/
import Derived.Test.YtlhajccbfapieaaGreatDoorQ5
import Derived.Test.YtlhajccbfapieaaGreatDoorC00q
import Derived.Test.YtlhajccbfapieaaGreatDoorQ4
import Derived.Test.YtlhajccbfapieaaGreatDoorQ1
set_option linter.unusedSimpArgs false
set_option linter.unusedVariables false
namespace Go.Proofs.YtlhajccbfapieaaGreatDoor.Ab
open Go
set_option linter.unusedSimpArgs false
set_option maxRecDepth 100000
set_option linter.unusedVariables false
set_option maxHeartbeats 4000000
theorem numText_one {c : Int} (h0 : 0 ≤ c) (h1 : c ≤ 10000) : numText c (Int.ofNat 1) = Lib.decDigits c.toNat := by
 unfold numText
 have hp : isPx c = true := by unfold isPx; simp; omega
 rw [if_pos ⟨hp, .inl rfl⟩, if_neg (by omega)]
 show [] ++ posText c.natAbs 1 = _
 unfold posText
 rw [Nat.mod_one, frac_zero, Nat.div_one, List.nil_append]
 simp
 congr 1
 omega
theorem rep_count {p : Pc} (h : AloneP p) (hk : p.kind = 3) : 0 ≤ p.count ∧ p.count ≤ 10000 := by
 rcases h with ⟨h, _⟩ | ⟨h, _⟩ | ⟨_, h1, h2, _⟩ | ⟨h, _⟩
 · omega
 · omega
 · omega
 · unfold AutoK at h; omega
theorem roneR_ok (p : Pc) (h : TxP p) (hk : RepK p.kind) (J : Pc → List UInt8) (m : Nat) (hin0 : p.inner ≠ []) (hinl : p.inner.length ≤ 256) (hm : m ≤ 1000000) (hJl : ∀ q ∈ p.inner, (J q).length ≤ m)
 (hJ : ∀ q ∈ p.inner, Pur F0 42 [pcA (clean q)] [] .no (.ret (S (J q))) .no) :
 Pur F0 42 [pcA p] [] .no (.ret (S (repB ++ repW p ++ [44, 32] ++ Lib.join (p.inner.map J) [32] ++ [41]))) .no := by
 have hrl := repW_len h
 obtain ⟨hpo, hal⟩ := h
 have hcn := rep_count hal
 unfold repW at hrl ⊢
 cases hpo with
 | @mk kd vn names t cn vi inner hvn hvi hin =>
 simp only [Pc.kind, Pc.inner, Pc.count] at hk hin0 hinl hJl hJ hcn hrl ⊢
 clear hal hin
 rcases hvi with ⟨rfl, hvi⟩ | rfl
 · exact (hin0 (List.map_eq_nil_iff.1 hvi)).elim
 have q1 : ieq kd (Int.ofNat 1) = false := by rw [ieq_f]; rcases hk with h | h | h <;> rw [h] <;> decide
 have q2 : ieq kd (Int.ofNat 2) = false := by rw [ieq_f]; rcases hk with h | h | h <;> rw [h] <;> decide
 by_cases h3 : kd = 3
 · have q3 : ieq kd (Int.ofNat 3) = true := by rw [ieq_t]; exact h3
   have q5 : ieq kd (Int.ofNat 5) = false := by rw [ieq_f, h3]; decide
   obtain ⟨c0, c1⟩ := hcn h3
   have hT := rtext_ok cn (Int.ofNat 1)
   rw [numText_one c0 c1] at hT
   have hD : repK kd cn = Lib.decDigits cn.toNat := if_pos h3
   rw [hD] at hrl ⊢
   generalize Lib.decDigits cn.toNat = D at *
   refine pur_code code42_ok ?_
   conv => whnf
   repeat' ((first | refine bt ?_ | refine bf ?_ | refine vpur_i hT ?_ | refine vl ?_ | fail) <;> conv => whnf)
   refine vloop_cnh (α := JS) inner.length (fun k y => jL y = (inner.take k).map J ∧ (y = none → k = 0)) (fun k y => [(6, jA 1 y), (7, I (k : Int))]) (fun _ y => match y with
    | none => [pcO6 (.mk kd vn names t cn (.sl 11 (inner.map pcRow)) inner)]
    | some (g, l) => [pcO6 (.mk kd vn names t cn (.sl 11 (inner.map pcRow)) inner), jB g l]) none ⟨rfl, fun _ => rfl⟩ rfl rfl ?_
   rintro k y hk ⟨hy, hy0⟩
   have hpos := List.length_pos_iff.2 hin0
   rcases Nat.lt_or_ge k inner.length with hlt | hge
   · obtain ⟨q, hx⟩ := get_in hlt
     have hg := iget_map (f := pcRow) hx
     have hq := lt_len (f := pcRow) hlt
     have hxl := hJl q (List.mem_of_getElem? hx)
     have hW := hJ q (List.mem_of_getElem? hx)
     have n1 : iadd .i64 (k : Int) (Int.ofNat 1) = ((k + 1 : Nat) : Int) := iadd_one (by omega)
     have hY : (inner.take (k + 1)).map J = jL y ++ [J q] := by rw [List.take_add_one, hx, List.map_append, hy]; rfl
     generalize J q = T at hxl hW hY
     clear hx hJ hJl
     rcases q with ⟨kd2, vn2, names2, ⟨a1, a2, a3, a4, a5, a6, a7⟩, cn2, vi2, inner2⟩
     rcases y with _ | ⟨g, l⟩
     · conv => whnf
       repeat' ((first | refine bt ?_ | refine bf ?_ | refine vo_i hg ?_ | refine vpur_i hW ?_ | refine vb_t (room_t (by simp <;> omega)) ?_ | refine vl ?_ | fail) <;> conv => whnf)
       exact ⟨⟨(k + 1, some (0, [T])), (by omega), ⟨hY.symm, fun h => by cases h⟩⟩, (by simp only; omega), (by repeat' (first | exact rfl | exact slot_eq (I_eq n1) | refine cons_eq ?_ ?_)), rfl, rfl, rfl⟩
     · have hll : l.length ≤ 256 := by
        have := congrArg List.length hy
        simp only [jL, List.length_map, List.length_take] at this; omega
       have hgg : Nat.beq g g = true := by simp
       have hql := ieqL wsRow l
       conv => whnf
       repeat' ((first | refine bt ?_ | refine bf ?_ | refine vo_i hg ?_ | refine vpur_i hW ?_ | refine vb_t (room_t (by simp <;> omega)) ?_ | refine vl ?_ | fail) <;> conv => whnf)
       exact ⟨⟨(k + 1, some (g + 1, l ++ [T])), (by omega), ⟨hY.symm, fun h => by cases h⟩⟩, (by simp only; omega), (by repeat' (first | exact rfl | exact slot_eq (osl_eq rfl (by simp)) | exact slot_eq (I_eq n1) | refine cons_eq ?_ ?_)), (by repeat' (first | exact rfl | refine cons_eq ?_ ?_ | exact arr_eq2 rfl (by rw [List.map_append]; rfl))), rfl, rfl⟩
   · obtain rfl : k = inner.length := by omega
     have hq := nlt_len (f := pcRow) (Nat.not_lt.2 (Nat.le_refl inner.length))
     rw [List.take_length] at hy
     rcases y with _ | ⟨g, _ | ⟨a, l⟩⟩
     · have := hy0 rfl; omega
     · have := congrArg List.length hy
       simp [jL] at this
       exact (hin0 (List.length_eq_zero_iff.1 (by omega))).elim
     · have hb : ∀ x ∈ (a :: l), x.length ≤ m := fun x hx => by
        have hx : x ∈ inner.map J := by rw [← hy]; exact hx
        obtain ⟨s, hs, rfl⟩ := List.mem_map.1 hx
        exact hJl s hs
       have hll : (a :: l).length ≤ 256 := by
        have := congrArg List.length hy
        simp only [jL, List.length_map] at this; omega
       have hJ2 := rjoin_ok (a :: l) (by omega) (fun x hx => by have := hb x hx; omega)
       have hJl2 := jn_len (a :: l) m hb (by omega)
       have hgg : Nat.beq g g = true := by simp
       have hcut := jcut a l
       have hy : a :: l = inner.map J := hy
       rw [← hy]
       clear hy hJ hJl hb
       generalize Lib.join (a :: l) [32] = V at *
       conv => whnf
       repeat' ((first | refine bt ?_ | refine bf ?_ | (rw [hcut]) | refine vpur_i hJ2 ?_ | refine vb_t (roomS_t (by simp <;> omega)) ?_ | refine vl ?_ | fail) <;> conv => whnf)
       exact ⟨rfl, rfl⟩
 · have q3 : ieq kd (Int.ofNat 3) = false := by rw [ieq_f]; exact h3
   by_cases h5 : kd = 5
   · have q5 : ieq kd (Int.ofNat 5) = true := by rw [ieq_t]; exact h5
     have hD : repK kd cn = afitB := (if_neg h3).trans (if_pos h5)
     rw [hD] at hrl ⊢
     refine pur_code code42_ok ?_
     conv => whnf
     repeat' ((first | refine bt ?_ | refine bf ?_ | refine vl ?_ | fail) <;> conv => whnf)
     refine vloop_cnh (α := JS) inner.length (fun k y => jL y = (inner.take k).map J ∧ (y = none → k = 0)) (fun k y => [(6, jA 1 y), (7, I (k : Int))]) (fun _ y => match y with
      | none => [pcO6 (.mk kd vn names t cn (.sl 11 (inner.map pcRow)) inner)]
      | some (g, l) => [pcO6 (.mk kd vn names t cn (.sl 11 (inner.map pcRow)) inner), jB g l]) none ⟨rfl, fun _ => rfl⟩ rfl rfl ?_
     rintro k y hk ⟨hy, hy0⟩
     have hpos := List.length_pos_iff.2 hin0
     rcases Nat.lt_or_ge k inner.length with hlt | hge
     · obtain ⟨q, hx⟩ := get_in hlt
       have hg := iget_map (f := pcRow) hx
       have hq := lt_len (f := pcRow) hlt
       have hxl := hJl q (List.mem_of_getElem? hx)
       have hW := hJ q (List.mem_of_getElem? hx)
       have n1 : iadd .i64 (k : Int) (Int.ofNat 1) = ((k + 1 : Nat) : Int) := iadd_one (by omega)
       have hY : (inner.take (k + 1)).map J = jL y ++ [J q] := by rw [List.take_add_one, hx, List.map_append, hy]; rfl
       generalize J q = T at hxl hW hY
       clear hx hJ hJl
       rcases q with ⟨kd2, vn2, names2, ⟨a1, a2, a3, a4, a5, a6, a7⟩, cn2, vi2, inner2⟩
       rcases y with _ | ⟨g, l⟩
       · conv => whnf
         repeat' ((first | refine bt ?_ | refine bf ?_ | refine vo_i hg ?_ | refine vpur_i hW ?_ | refine vb_t (room_t (by simp <;> omega)) ?_ | refine vl ?_ | fail) <;> conv => whnf)
         exact ⟨⟨(k + 1, some (0, [T])), (by omega), ⟨hY.symm, fun h => by cases h⟩⟩, (by simp only; omega), (by repeat' (first | exact rfl | exact slot_eq (I_eq n1) | refine cons_eq ?_ ?_)), rfl, rfl, rfl⟩
       · have hll : l.length ≤ 256 := by
          have := congrArg List.length hy
          simp only [jL, List.length_map, List.length_take] at this; omega
         have hgg : Nat.beq g g = true := by simp
         have hql := ieqL wsRow l
         conv => whnf
         repeat' ((first | refine bt ?_ | refine bf ?_ | refine vo_i hg ?_ | refine vpur_i hW ?_ | refine vb_t (room_t (by simp <;> omega)) ?_ | refine vl ?_ | fail) <;> conv => whnf)
         exact ⟨⟨(k + 1, some (g + 1, l ++ [T])), (by omega), ⟨hY.symm, fun h => by cases h⟩⟩, (by simp only; omega), (by repeat' (first | exact rfl | exact slot_eq (osl_eq rfl (by simp)) | exact slot_eq (I_eq n1) | refine cons_eq ?_ ?_)), (by repeat' (first | exact rfl | refine cons_eq ?_ ?_ | exact arr_eq2 rfl (by rw [List.map_append]; rfl))), rfl, rfl⟩
     · obtain rfl : k = inner.length := by omega
       have hq := nlt_len (f := pcRow) (Nat.not_lt.2 (Nat.le_refl inner.length))
       rw [List.take_length] at hy
       rcases y with _ | ⟨g, _ | ⟨a, l⟩⟩
       · have := hy0 rfl; omega
       · have := congrArg List.length hy
         simp [jL] at this
         exact (hin0 (List.length_eq_zero_iff.1 (by omega))).elim
       · have hb : ∀ x ∈ (a :: l), x.length ≤ m := fun x hx => by
          have hx : x ∈ inner.map J := by rw [← hy]; exact hx
          obtain ⟨s, hs, rfl⟩ := List.mem_map.1 hx
          exact hJl s hs
         have hll : (a :: l).length ≤ 256 := by
          have := congrArg List.length hy
          simp only [jL, List.length_map] at this; omega
         have hJ2 := rjoin_ok (a :: l) (by omega) (fun x hx => by have := hb x hx; omega)
         have hJl2 := jn_len (a :: l) m hb (by omega)
         have hgg : Nat.beq g g = true := by simp
         have hcut := jcut a l
         have hy : a :: l = inner.map J := hy
         rw [← hy]
         clear hy hJ hJl hb
         generalize Lib.join (a :: l) [32] = V at *
         conv => whnf
         repeat' ((first | refine bt ?_ | refine bf ?_ | (rw [hcut]) | refine vpur_i hJ2 ?_ | refine vb_t (roomS_t (by simp <;> omega)) ?_ | refine vl ?_ | fail) <;> conv => whnf)
         exact ⟨rfl, rfl⟩
   · have q5 : ieq kd (Int.ofNat 5) = false := by rw [ieq_f]; exact h5
     have hD : repK kd cn = afillB := (if_neg h3).trans (if_neg h5)
     rw [hD] at hrl ⊢
     refine pur_code code42_ok ?_
     conv => whnf
     repeat' ((first | refine bt ?_ | refine bf ?_ | refine vl ?_ | fail) <;> conv => whnf)
     refine vloop_cnh (α := JS) inner.length (fun k y => jL y = (inner.take k).map J ∧ (y = none → k = 0)) (fun k y => [(6, jA 1 y), (7, I (k : Int))]) (fun _ y => match y with
      | none => [pcO6 (.mk kd vn names t cn (.sl 11 (inner.map pcRow)) inner)]
      | some (g, l) => [pcO6 (.mk kd vn names t cn (.sl 11 (inner.map pcRow)) inner), jB g l]) none ⟨rfl, fun _ => rfl⟩ rfl rfl ?_
     rintro k y hk ⟨hy, hy0⟩
     have hpos := List.length_pos_iff.2 hin0
     rcases Nat.lt_or_ge k inner.length with hlt | hge
     · obtain ⟨q, hx⟩ := get_in hlt
       have hg := iget_map (f := pcRow) hx
       have hq := lt_len (f := pcRow) hlt
       have hxl := hJl q (List.mem_of_getElem? hx)
       have hW := hJ q (List.mem_of_getElem? hx)
       have n1 : iadd .i64 (k : Int) (Int.ofNat 1) = ((k + 1 : Nat) : Int) := iadd_one (by omega)
       have hY : (inner.take (k + 1)).map J = jL y ++ [J q] := by rw [List.take_add_one, hx, List.map_append, hy]; rfl
       generalize J q = T at hxl hW hY
       clear hx hJ hJl
       rcases q with ⟨kd2, vn2, names2, ⟨a1, a2, a3, a4, a5, a6, a7⟩, cn2, vi2, inner2⟩
       rcases y with _ | ⟨g, l⟩
       · conv => whnf
         repeat' ((first | refine bt ?_ | refine bf ?_ | refine vo_i hg ?_ | refine vpur_i hW ?_ | refine vb_t (room_t (by simp <;> omega)) ?_ | refine vl ?_ | fail) <;> conv => whnf)
         exact ⟨⟨(k + 1, some (0, [T])), (by omega), ⟨hY.symm, fun h => by cases h⟩⟩, (by simp only; omega), (by repeat' (first | exact rfl | exact slot_eq (I_eq n1) | refine cons_eq ?_ ?_)), rfl, rfl, rfl⟩
       · have hll : l.length ≤ 256 := by
          have := congrArg List.length hy
          simp only [jL, List.length_map, List.length_take] at this; omega
         have hgg : Nat.beq g g = true := by simp
         have hql := ieqL wsRow l
         conv => whnf
         repeat' ((first | refine bt ?_ | refine bf ?_ | refine vo_i hg ?_ | refine vpur_i hW ?_ | refine vb_t (room_t (by simp <;> omega)) ?_ | refine vl ?_ | fail) <;> conv => whnf)
         exact ⟨⟨(k + 1, some (g + 1, l ++ [T])), (by omega), ⟨hY.symm, fun h => by cases h⟩⟩, (by simp only; omega), (by repeat' (first | exact rfl | exact slot_eq (osl_eq rfl (by simp)) | exact slot_eq (I_eq n1) | refine cons_eq ?_ ?_)), (by repeat' (first | exact rfl | refine cons_eq ?_ ?_ | exact arr_eq2 rfl (by rw [List.map_append]; rfl))), rfl, rfl⟩
     · obtain rfl : k = inner.length := by omega
       have hq := nlt_len (f := pcRow) (Nat.not_lt.2 (Nat.le_refl inner.length))
       rw [List.take_length] at hy
       rcases y with _ | ⟨g, _ | ⟨a, l⟩⟩
       · have := hy0 rfl; omega
       · have := congrArg List.length hy
         simp [jL] at this
         exact (hin0 (List.length_eq_zero_iff.1 (by omega))).elim
       · have hb : ∀ x ∈ (a :: l), x.length ≤ m := fun x hx => by
          have hx : x ∈ inner.map J := by rw [← hy]; exact hx
          obtain ⟨s, hs, rfl⟩ := List.mem_map.1 hx
          exact hJl s hs
         have hll : (a :: l).length ≤ 256 := by
          have := congrArg List.length hy
          simp only [jL, List.length_map] at this; omega
         have hJ2 := rjoin_ok (a :: l) (by omega) (fun x hx => by have := hb x hx; omega)
         have hJl2 := jn_len (a :: l) m hb (by omega)
         have hgg : Nat.beq g g = true := by simp
         have hcut := jcut a l
         have hy : a :: l = inner.map J := hy
         rw [← hy]
         clear hy hJ hJl hb
         generalize Lib.join (a :: l) [32] = V at *
         conv => whnf
         repeat' ((first | refine bt ?_ | refine bf ?_ | (rw [hcut]) | refine vpur_i hJ2 ?_ | refine vb_t (roomS_t (by simp <;> omega)) ?_ | refine vl ?_ | fail) <;> conv => whnf)
         exact ⟨rfl, rfl⟩
end Go.Proofs.YtlhajccbfapieaaGreatDoor.Ab
namespace Go.Proofs.YtlhajccbfapieaaGreatDoor.Ab
open Go
set_option linter.unusedSimpArgs false
set_option maxRecDepth 100000
set_option linter.unusedVariables false
set_option maxHeartbeats 4000000
def bc (b : Bool) : Obj := ⟨.mine, 4, .fix [.d (.bool b)]⟩
def slc (v : DV) : Obj := ⟨.mine, 26, .fix [.d v]⟩
def pco (p : Pc) : Obj := ⟨.mine, 46, .fix ((pcRow p).map .d)⟩
def rcd (n : Nat) (c : List AV) : Obj := ⟨.mine, 0, .lp n 0 c⟩
noncomputable def lzA (f : Bool) (p : Pc) : Bool := f || pb (AutoK p.kind)
noncomputable def lzB (a : Bool) (p : Pc) : Bool := a && pb (FixP p)
theorem lzround_ok (p : Pc) (f a : Bool) : CallsTo F0 (1048576 + 36) [.yld .opn 36 0, pcA p] [rcd 36 [.ptr 1 0, .ptr 2 0], bc f, bc a] .no
 ⟨.ret (B true), [rcd 36 [.ptr 1 0, .ptr 2 0], bc (lzA f p), bc (lzB a p), pco p], .no⟩ := by
 cases p with
 | mk kd vn names t c vi inner =>
 obtain ⟨ak, an, bk, bn, fit, lk, ln⟩ := t
 have hau := isAuto_ok kd
 have hfx := fixed_ok ⟨ak, an, bk, bn, fit, lk, ln⟩
 unfold lzA lzB
 cases hk : ieq kd (Int.ofNat 2) with
 | true =>
  have hk' : (!ieq kd (Int.ofNat 2)) = false := by rw [hk]; rfl
  have hF : pb (FixP (.mk kd vn names ⟨ak, an, bk, bn, fit, lk, ln⟩ c vi inner)) = fixedT ⟨ak, an, bk, bn, fit, lk, ln⟩ := by
   rw [ieq_t] at hk
   rw [Bool.eq_iff_iff, pb_iff]
   exact ⟨fun h => h hk, fun h _ => h⟩
  rw [hF]
  cases f <;> cases a
  all_goals refine calls_round round36_ok ?_
  all_goals conv => whnf
  repeat' ((first | refine bt ?_ | refine bf ?_ | refine vpur_i hau ?_ | refine vpur_i hfx ?_ | refine vl ?_ | fail) <;> conv => whnf)
  all_goals exact rfl
 | false =>
  have hk' : (!ieq kd (Int.ofNat 2)) = true := by rw [hk]; rfl
  have hF : pb (FixP (.mk kd vn names ⟨ak, an, bk, bn, fit, lk, ln⟩ c vi inner)) = true := pb_t fun h => by
   rw [ieq_f] at hk
   exact (hk h).elim
  rw [hF]
  cases f <;> cases a
  all_goals refine calls_round round36_ok ?_
  all_goals conv => whnf
  repeat' ((first | refine bt ?_ | refine bf ?_ | refine vpur_i hau ?_ | refine vpur_i hfx ?_ | refine vl ?_ | fail) <;> conv => whnf)
  all_goals exact rfl
def allP : List Pc → List Pc
 | [] => []
 | p :: l => p :: p.inner ++ allP l
theorem allP_append (a b : List Pc) : allP (a ++ b) = allP a ++ allP b := by
 induction a with
 | nil => rfl
 | cons p a ih => simp only [List.cons_append, allP, ih, List.append_assoc]
theorem allP_succ {l : List Pc} {k : Nat} {p : Pc} (hp : l[k]? = some p) : allP (l.take (k + 1)) = allP (l.take k) ++ (p :: p.inner) := by
 rw [take_snoc hp, allP_append]; simp [allP]
noncomputable def hz (v : DV) (l : List Pc) : Heap := [rcd 36 [.ptr 2 0, .ptr 3 0], slc v, bc (l.foldl lzA false), bc (l.foldl lzB true)]
theorem hz_succ {v : DV} {l : List Pc} {p : Pc} : hz v (l ++ [p]) = [rcd 36 [.ptr 2 0, .ptr 3 0], slc v, bc (lzA (l.foldl lzA false) p), bc (lzB (l.foldl lzB true) p)] := by
 unfold hz; rw [List.foldl_append, List.foldl_append]; rfl
theorem snoc_take {a : List Pc} {p q : Pc} {l : List Pc} {j : Nat} (hq : l[j]? = some q) : a ++ (p :: l.take (j + 1)) = (a ++ (p :: l.take j)) ++ [q] := by
 rw [take_snoc hq]; simp
theorem all1_ok (l : List Pc) (hlen : l.length ≤ 1000000) (hall : ∀ p ∈ l, PcOk p ∧ p.inner.length ≤ 1000000) : Drp F0 4 88 [.yld .opn 36 0, .ptr 1 0] (hz (.sl 11 (l.map pcRow)) []) .no (.ret (.tup [])) (hz (.sl 11 (l.map pcRow)) (allP l)) .no := by
 refine drp_code code88_ok ?_
 conv => whnf
 repeat' ((first | refine bt ?_ | refine bf ?_ | refine vl ?_ | fail) <;> conv => whnf)
 refine vloop_cnh (α := Unit) l.length (fun _ _ => True) (fun k _ => [(9, I (k : Int))]) (fun k _ => hz (.sl 11 (l.map pcRow)) (allP (l.take k))) () trivial rfl rfl ?_
 intro k _ hk _
 conv => whnf
 have hx : (!true) = false := rfl
 by_cases hlt : k < l.length
 · obtain ⟨p, hp⟩ := get_in hlt
   have hg := iget_map (f := pcRow) hp
   have hl := lt_len (f := pcRow) hlt
   obtain ⟨hpo, hpi⟩ := hall p (List.mem_of_getElem? hp)
   have hS := allP_succ hp
   clear hp hall
   have hR := lzround_ok p ((allP (l.take k)).foldl lzA false) ((allP (l.take k)).foldl lzB true)
   cases hpo with
   | @mk kd vn names t c vi inner hn hi h0 =>
   simp only [Pc.inner] at hpi hS
   rcases hi with ⟨rfl, hi⟩ | rfl
   · have hi0 : inner = [] := List.map_eq_nil_iff.1 hi
     subst hi0
     repeat' ((first | refine bt ?_ | refine bf ?_ | refine vo_i hg ?_ | refine vcall_i hR ?_ | refine vl ?_ | fail) <;> conv => whnf)
     refine vloop_cnh (α := Unit) 0 (fun _ _ => True) (fun j _ => [(20, I (j : Int))]) (fun j _ => hz (.sl 11 (l.map pcRow)) (allP (l.take k) ++ [.mk kd vn names t c .nilsl []])) () trivial rfl (hz_succ.trans rfl) ?_
     intro j _ hj _
     obtain rfl : j = 0 := by omega
     conv => whnf
     have hz0 : ilt ((0 : Nat) : Int) (0 : Int) = false := by rw [ilt_f]; omega
     repeat' ((first | refine bt ?_ | refine bf ?_ | refine vb_f (by (first | omega | (simp only [ilt_t, ilt_f, ile_t, ile_f, ieq_t, ieq_f, ofn, List.length_map, Bool.not_eq_true', Bool.not_eq_false'] at *; omega))) ?_ | refine vl ?_ | fail) <;> conv => whnf)
     exact ⟨⟨(k + 1, ()), (by omega), trivial⟩, (by simp only; omega), (by repeat' (first | exact rfl | exact slot_eq (I_eq (iadd_one (by omega))) | (refine cons_eq ?_ ?_) | assumption)), Eq.symm (Eq.trans (congrArg (hz _) hS) rfl), rfl, rfl⟩
   · repeat' ((first | refine bt ?_ | refine bf ?_ | refine vo_i hg ?_ | refine vcall_i hR ?_ | refine vl ?_ | fail) <;> conv => whnf)
     refine vloop_cnh (α := Unit) inner.length (fun _ _ => True) (fun j _ => [(20, I (j : Int))]) (fun j _ => hz (.sl 11 (l.map pcRow)) (allP (l.take k) ++ (.mk kd vn names t c (.sl 11 (inner.map pcRow)) inner :: inner.take j))) () trivial rfl (hz_succ.trans rfl) ?_
     intro j _ hj _
     conv => whnf
     by_cases hlj : j < inner.length
     · obtain ⟨q, hq⟩ := get_in hlj
       have hgq := iget_map (f := pcRow) hq
       have hlq := lt_len (f := pcRow) hlj
       have hE := snoc_take (a := allP (l.take k)) (p := .mk kd vn names t c (.sl 11 (inner.map pcRow)) inner) hq
       have hRq := lzround_ok q ((allP (l.take k) ++ (.mk kd vn names t c (.sl 11 (inner.map pcRow)) inner :: inner.take j)).foldl lzA false) ((allP (l.take k) ++ (.mk kd vn names t c (.sl 11 (inner.map pcRow)) inner :: inner.take j)).foldl lzB true)
       clear hq hR hS
       cases q with
       | mk kd2 vn2 names2 t2 c2 vi2 inner2 =>
       repeat' ((first | refine bt ?_ | refine bf ?_ | refine vo_i hgq ?_ | refine vcall_i hRq ?_ | refine vl ?_ | fail) <;> conv => whnf)
       exact ⟨⟨(j + 1, ()), (by omega), trivial⟩, (by simp only; omega), (by repeat' (first | exact rfl | exact slot_eq (I_eq (iadd_one (by omega))) | (refine cons_eq ?_ ?_) | assumption)), Eq.symm (Eq.trans (congrArg (hz _) hE) (hz_succ.trans rfl)), rfl, rfl⟩
     · have hlq := nlt_len (f := pcRow) hlj
       have e : inner.take j = inner := List.take_of_length_le (by omega)
       rw [e]
       repeat' ((first | refine bt ?_ | refine bf ?_ | refine vb_f (by (first | omega | (simp only [ilt_t, ilt_f, ile_t, ile_f, ieq_t, ieq_f, ofn, List.length_map, Bool.not_eq_true', Bool.not_eq_false'] at *; omega))) ?_ | refine vl ?_ | fail) <;> conv => whnf)
       exact ⟨⟨(k + 1, ()), (by omega), trivial⟩, (by simp only; omega), (by repeat' (first | exact rfl | exact slot_eq (I_eq (iadd_one (by omega))) | (refine cons_eq ?_ ?_) | assumption)), Eq.symm (Eq.trans (congrArg (hz _) hS) rfl), rfl, rfl⟩
 · have hl := nlt_len (f := pcRow) hlt
   have e : l.take k = l := List.take_of_length_le (by omega)
   rw [e]
   repeat' ((first | refine bt ?_ | refine bf ?_ | refine vb_f (by (first | omega | (simp only [ilt_t, ilt_f, ile_t, ile_f, ieq_t, ieq_f, ofn, List.length_map, Bool.not_eq_true', Bool.not_eq_false'] at *; omega))) ?_ | refine vl ?_ | fail) <;> conv => whnf)
   exact ⟨rfl, rfl, rfl⟩
theorem foldA {l : List Pc} : ∀ {b : Bool}, l.foldl lzA b = (b || pb (∃ p ∈ l, AutoK p.kind)) := by
 induction l with
 | nil => intro b; rw [pb_f (by simp)]; simp
 | cons p l ih =>
  intro b
  rw [List.foldl_cons, ih, lzA, Bool.eq_iff_iff]
  simp [pb_iff, or_assoc]
theorem foldB {l : List Pc} : ∀ {b : Bool}, l.foldl lzB b = (b && pb (∀ p ∈ l, FixP p)) := by
 induction l with
 | nil => intro b; rw [pb_t (by simp)]; simp
 | cons p l ih =>
  intro b
  rw [List.foldl_cons, ih, lzB, Bool.eq_iff_iff]
  simp [pb_iff, and_assoc]
def LooseP (l : List Pc) : Prop := (∃ p ∈ allP l, AutoK p.kind) ∧ ¬ ∀ p ∈ allP l, FixP p
theorem hz_end {v : DV} {l : List Pc} : hz v l = [rcd 36 [.ptr 2 0, .ptr 3 0], slc v, bc (pb (∃ p ∈ l, AutoK p.kind)), bc (pb (∀ p ∈ l, FixP p))] := by
 unfold hz; rw [foldA, foldB]; rfl
theorem all_ok (v : DV) : CallsTo F0 62 [.d v] [] .no ⟨.ret (.fn .drop 88 [] [.ptr 0 0]), [slc v], .no⟩ := by
 refine calls_code code62_ok ?_
 conv => whnf
 repeat' ((first | refine bt ?_ | refine bf ?_ | refine vl ?_ | fail) <;> conv => whnf)
 exact rfl
theorem loose_ok (l : List Pc) (hlen : l.length ≤ 1000000) (hall : ∀ p ∈ l, PcOk p ∧ p.inner.length ≤ 1000000) : Pur F0 36 [.d (.sl 11 (l.map pcRow))] [] .no (.ret (B (pb (LooseP l)))) .no := by
 have h1 := all1_ok l hlen hall
 have h0 : hz (.sl 11 (l.map pcRow)) [] = [rcd 36 [.ptr 2 0, .ptr 3 0], slc (.sl 11 (l.map pcRow)), bc false, bc true] := rfl
 rw [h0, hz_end] at h1
 have hL : pb (LooseP l) = (pb (∃ p ∈ allP l, AutoK p.kind) && !pb (∀ p ∈ allP l, FixP p)) := by
  rw [Bool.eq_iff_iff]
  simp only [LooseP, pb_iff, Bool.and_eq_true, Bool.not_eq_true', pb_ff]
 rw [hL]
 generalize pb (∃ p ∈ allP l, AutoK p.kind) = x at h1 ⊢
 generalize pb (∀ p ∈ allP l, FixP p) = y at h1 ⊢
 cases x <;> cases y
 all_goals refine pur_code code36_ok ?_
 all_goals conv => whnf
 repeat' ((first | refine bt ?_ | refine bf ?_ | refine vcall_i (all_ok _) ?_ | refine vdrp_i h1 ?_ | refine vl ?_ | fail) <;> conv => whnf)
 all_goals exact ⟨rfl, rfl⟩
end Go.Proofs.YtlhajccbfapieaaGreatDoor.Ab
namespace Go.Proofs.YtlhajccbfapieaaGreatDoor.Ab
open Go
set_option linter.unusedSimpArgs false
set_option maxRecDepth 100000
set_option linter.unusedVariables false
set_option maxHeartbeats 4000000
theorem mem_allP {l : List Pc} {q : Pc} : q ∈ allP l ↔ ∃ p ∈ l, q = p ∨ q ∈ p.inner := by
 induction l with
 | nil => simp [allP]
 | cons p l ih => simp only [allP, List.cons_append, List.mem_cons, List.mem_append, ih, exists_eq_or_imp, or_assoc]
theorem allP_fix {l : List Pc} : (∀ p ∈ allP l, FixP p) ↔ AllFixP l := by
 constructor
 · intro h p hp
   exact ⟨h p (mem_allP.2 ⟨p, hp, .inl rfl⟩), fun q hq => h q (mem_allP.2 ⟨p, hp, .inr hq⟩)⟩
 · intro h q hq
   obtain ⟨p, hp, rfl | hq⟩ := mem_allP.1 hq
   · exact (h q hp).1
   · exact (h p hp).2 q hq
theorem alone_inner {p : Pc} (h : AloneP p) (hr : ¬ RepK p.kind) : p.inner = [] := by
 rcases h with ⟨_, _, h, _⟩ | ⟨_, _, _, h, _⟩ | ⟨h, _⟩ | ⟨h, _⟩
 · exact h
 · exact h
 · exact (hr (.inl h)).elim
 · exact (hr (.inr h)).elim
theorem allP_auto {l : List Pc} (h1 : ListedP l false) (h2 : ∀ p ∈ l, RepOkP p) : (∃ p ∈ allP l, AutoK p.kind) ↔ 0 < autN l := by
 rw [autN_pos]
 constructor
 · rintro ⟨q, hq, ha⟩
   obtain ⟨p, hp, rfl | hq⟩ := mem_allP.1 hq
   · exact ⟨q, hp, ha⟩
   · by_cases hr : RepK p.kind
     · obtain ⟨i, hi⟩ := List.getElem?_of_mem hq
       exact ((((h2 p hp) hr).1 i q hi).2.1 ⟨rfl, .inr ha⟩).elim
     · obtain ⟨i, hi⟩ := List.getElem?_of_mem hp
       rw [alone_inner (h1.1 i p hi).1 hr] at hq
       cases hq
 · rintro ⟨p, hp, ha⟩
   exact ⟨p, mem_allP.2 ⟨p, hp, .inl rfl⟩, ha⟩
theorem listed_nil : Pur F0 33 [.d .nilsl, B true] [] .no (.ret (B false)) .no := pur_closed (n := 100) (by kernel_rfl)
theorem listedN_ok (l : List Pc) (v : DV) (hv : SlV 11 (l.map pcRow) v) (hs : SmP l) : Pur F0 33 [.d v, B true] [] .no (.ret (B (pb (ListedP l true)))) .no := by
 rcases hv with ⟨rfl, hn⟩ | rfl
 · obtain rfl : l = [] := List.map_eq_nil_iff.1 hn
   rw [pb_f (fun h => by obtain ⟨i, p, h, _⟩ := h.2.1; simp at h)]
   exact listed_nil
 · exact listed_ok l true hs
theorem tgood_nil : Pur F0 14 [.d .nilsl] [] .no (.ret (B true)) .no := pur_closed (n := 100) (by kernel_rfl)
theorem tgood_nil2 : Pur F0 14 [.d (.sl 11 [])] [] .no (.ret (B true)) .no := pur_closed (n := 100) (by kernel_rfl)
theorem goodP_ne {l : List Pc} (h0 : l ≠ []) : GoodP l ↔ ListedP l false ∧ (∀ p ∈ l, RepOkP p) ∧ l.length + innN l ≤ 256 ∧ autN l ≤ 1 ∧ (autN l = 1 → AllFixP l) :=
 ⟨fun h => h.resolve_left h0, .inr⟩
theorem tgood_ok (l : List Pc) (v : DV) (hv : SlV 11 (l.map pcRow) v) (hs : Sm2 l) : Pur F0 14 [.d v] [] .no (.ret (B (pb (GoodP l)))) .no := by
 obtain ⟨hs, hsi⟩ := hs
 have hs' := hs
 obtain ⟨hlen, hall⟩ := hs
 by_cases h0 : l = []
 · subst h0
   rw [pb_t (p := GoodP []) (.inl rfl)]
   rcases hv with ⟨rfl, _⟩ | rfl
   · exact tgood_nil
   · exact tgood_nil2
 rcases hv with ⟨rfl, hn⟩ | rfl
 · exact (h0 (List.map_eq_nil_iff.1 hn)).elim
 have hpos : 0 < l.length := List.length_pos_iff.2 h0
 have q0 : ieq ((l.map pcRow).length : Int) (Int.ofNat 0) = false := by rw [ieq_f, List.length_map, lit0]; omega
 have hal := listed_ok l false hs'
 by_cases hLi : ListedP l false
 · rw [pb_t hLi] at hal
   have hnt : (!true) = false := rfl
   have h256 := hLi.2.2
   refine pur_code code14_ok ?_
   conv => whnf
   repeat' ((first | refine bt ?_ | refine bf ?_ | refine vpur_i hal ?_ | refine vl ?_ | fail) <;> conv => whnf)
   refine vloop_cnt (α := Nat × Nat) l.length (fun k x => x.1 = l.length + innN (l.take k) ∧ x.1 ≤ 256 ∧ x.2 = autN (l.take k) ∧ x.2 ≤ k ∧ ∀ (i : Nat) (p : Pc), i < k → l[i]? = some p → RepOkP p) (fun k x => [(3, I (x.1 : Int)), (4, I (x.2 : Int)), (17, I (k : Int))]) (l.length, 0) ⟨by simp [innN], by simp only; omega, by simp [autN], Nat.le_refl _, fun i p h => by omega⟩ ?_ ?_
   · simp only [List.length_map]; rfl
   intro k x hk hI
   obtain ⟨n, a⟩ := x
   obtain ⟨hn, hn2, ha, ha2, hI⟩ := hI
   simp only at hn hn2 ha ha2
   conv => whnf
   by_cases hlt : k < l.length
   · obtain ⟨p, hp⟩ := get_in hlt
     have hg := iget_map (f := pcRow) hp
     have hl := lt_len (f := pcRow) hlt
     have hm := List.mem_of_getElem? hp
     obtain ⟨hpo, hps, hpi⟩ := hall p hm
     have hsq := hsi p hm
     have hre := isRepeat_ok p.kind
     have hau := isAuto_ok p.kind
     have hnext : RepOkP p → ∀ (i : Nat) (p : Pc), i < k + 1 → l[i]? = some p → RepOkP p := fun h => upto_succ (P := fun _ p => RepOkP p) hI hp h
     have hbad : ¬ RepOkP p → pb (GoodP l) = false := fun h => pb_f fun hL => h (((goodP_ne h0).1 hL).2.1 p hm)
     have hiN := innN_succ hp
     have haN := autN_succ hp
     have hle := innN_le l (k + 1)
     have hbig : 256 < l.length + innN (l.take (k + 1)) → pb (GoodP l) = false := fun h => pb_f fun hL => by have := ((goodP_ne h0).1 hL).2.2.1; omega
     clear hp hm hI hall hsi hps
     by_cases hR : RepK p.kind
     · rw [pb_t hR] at hre
       cases hpo with
       | @mk kd vn names t c vi inner hvn hvi h00 =>
       have hin := listedN_ok inner vi hvi hsq
       rw [if_pos hR] at hiN
       simp only [Pc.inner] at hiN hpi
       simp only [Pc.kind] at hre hau
       by_cases hA : AutoK kd
       · rw [if_pos (c := AutoK (Pc.mk kd vn names t c vi inner).kind) hA] at haN
         rw [pb_t hA] at hau
         have hx : (!true) = false := rfl
         have hz : (!false) = true := rfl
         by_cases hL : ListedP inner true
         · rw [pb_t hL] at hin
           rcases hvi with ⟨rfl, hvi⟩ | rfl
           · have hi0 : inner = [] := List.map_eq_nil_iff.1 hvi
             subst hi0
             exact (by obtain ⟨i, p, h, _⟩ := hL.2.1; simp at h)
           · have hadd : iadd .i64 (n : Int) ((inner.map pcRow).length : Int) = ((n + inner.length : Nat) : Int) := by rw [List.length_map]; exact iadd_small (by omega) (by omega)
             by_cases hb : 256 < n + inner.length
             · have hlt2 : ilt (Int.ofNat 256) (iadd .i64 (n : Int) ((inner.map pcRow).length : Int)) = true := by rw [hadd, ilt_t]; show ((256 : Int) < _); omega
               rw [hbig (by omega)]
               repeat' ((first | refine bt ?_ | refine bf ?_ | refine vo_i hg ?_ | refine vpur_i hre ?_ | refine vpur_i hau ?_ | refine vpur_i hin ?_ | refine vl ?_ | fail) <;> conv => whnf)
               exact ⟨rfl, rfl⟩
             · have hlt2 : ilt (Int.ofNat 256) (iadd .i64 (n : Int) ((inner.map pcRow).length : Int)) = false := by rw [hadd, ilt_f]; show (_ : Int) ≤ 256; omega
               repeat' ((first | refine bt ?_ | refine bf ?_ | refine vo_i hg ?_ | refine vpur_i hre ?_ | refine vpur_i hau ?_ | refine vpur_i hin ?_ | refine vl ?_ | fail) <;> conv => whnf)
               refine ⟨⟨(k + 1, (n + inner.length, (a + 1))), (by omega), ?_⟩, (by simp only; omega), (by repeat' (first | exact rfl | exact slot_eq (I_eq hadd) | exact slot_eq (I_eq (iadd_one (by omega))) | (refine cons_eq ?_ ?_))), rfl, rfl, rfl⟩
               simp only []
               exact ⟨by omega, by omega, by omega, by omega, hnext fun _ => hL⟩
         · rw [pb_f hL] at hin
           rw [hbad fun h => hL (h hR)]
           rcases hvi with ⟨rfl, hvi⟩ | rfl
           · have hi0 : inner = [] := List.map_eq_nil_iff.1 hvi
             subst hi0
             have hadd : iadd .i64 (n : Int) 0 = (n : Int) := by rw [iadd64 (by omega) (by omega)]; omega
             have hlt2 : ilt (Int.ofNat 256) (iadd .i64 (n : Int) 0) = false := by rw [hadd, ilt_f]; show (_ : Int) ≤ 256; omega
             repeat' ((first | refine bt ?_ | refine bf ?_ | refine vo_i hg ?_ | refine vpur_i hre ?_ | refine vpur_i hau ?_ | refine vpur_i hin ?_ | refine vl ?_ | fail) <;> conv => whnf)
             exact ⟨rfl, rfl⟩
           · cases hlt2 : ilt (Int.ofNat 256) (iadd .i64 (n : Int) ((inner.map pcRow).length : Int)) with
             | true =>
              repeat' ((first | refine bt ?_ | refine bf ?_ | refine vo_i hg ?_ | refine vpur_i hre ?_ | refine vpur_i hau ?_ | refine vpur_i hin ?_ | refine vl ?_ | fail) <;> conv => whnf)
              exact ⟨rfl, rfl⟩
             | false =>
              repeat' ((first | refine bt ?_ | refine bf ?_ | refine vo_i hg ?_ | refine vpur_i hre ?_ | refine vpur_i hau ?_ | refine vpur_i hin ?_ | refine vl ?_ | fail) <;> conv => whnf)
              exact ⟨rfl, rfl⟩
       · rw [if_neg (c := AutoK (Pc.mk kd vn names t c vi inner).kind) hA] at haN
         rw [pb_f hA] at hau
         have hx : (!true) = false := rfl
         have hz : (!false) = true := rfl
         by_cases hL : ListedP inner true
         · rw [pb_t hL] at hin
           rcases hvi with ⟨rfl, hvi⟩ | rfl
           · have hi0 : inner = [] := List.map_eq_nil_iff.1 hvi
             subst hi0
             exact (by obtain ⟨i, p, h, _⟩ := hL.2.1; simp at h)
           · have hadd : iadd .i64 (n : Int) ((inner.map pcRow).length : Int) = ((n + inner.length : Nat) : Int) := by rw [List.length_map]; exact iadd_small (by omega) (by omega)
             by_cases hb : 256 < n + inner.length
             · have hlt2 : ilt (Int.ofNat 256) (iadd .i64 (n : Int) ((inner.map pcRow).length : Int)) = true := by rw [hadd, ilt_t]; show ((256 : Int) < _); omega
               rw [hbig (by omega)]
               repeat' ((first | refine bt ?_ | refine bf ?_ | refine vo_i hg ?_ | refine vpur_i hre ?_ | refine vpur_i hau ?_ | refine vpur_i hin ?_ | refine vl ?_ | fail) <;> conv => whnf)
               exact ⟨rfl, rfl⟩
             · have hlt2 : ilt (Int.ofNat 256) (iadd .i64 (n : Int) ((inner.map pcRow).length : Int)) = false := by rw [hadd, ilt_f]; show (_ : Int) ≤ 256; omega
               repeat' ((first | refine bt ?_ | refine bf ?_ | refine vo_i hg ?_ | refine vpur_i hre ?_ | refine vpur_i hau ?_ | refine vpur_i hin ?_ | refine vl ?_ | fail) <;> conv => whnf)
               refine ⟨⟨(k + 1, (n + inner.length, a)), (by omega), ?_⟩, (by simp only; omega), (by repeat' (first | exact rfl | exact slot_eq (I_eq hadd) | exact slot_eq (I_eq (iadd_one (by omega))) | (refine cons_eq ?_ ?_))), rfl, rfl, rfl⟩
               simp only []
               exact ⟨by omega, by omega, by omega, by omega, hnext fun _ => hL⟩
         · rw [pb_f hL] at hin
           rw [hbad fun h => hL (h hR)]
           rcases hvi with ⟨rfl, hvi⟩ | rfl
           · have hi0 : inner = [] := List.map_eq_nil_iff.1 hvi
             subst hi0
             have hadd : iadd .i64 (n : Int) 0 = (n : Int) := by rw [iadd64 (by omega) (by omega)]; omega
             have hlt2 : ilt (Int.ofNat 256) (iadd .i64 (n : Int) 0) = false := by rw [hadd, ilt_f]; show (_ : Int) ≤ 256; omega
             repeat' ((first | refine bt ?_ | refine bf ?_ | refine vo_i hg ?_ | refine vpur_i hre ?_ | refine vpur_i hau ?_ | refine vpur_i hin ?_ | refine vl ?_ | fail) <;> conv => whnf)
             exact ⟨rfl, rfl⟩
           · cases hlt2 : ilt (Int.ofNat 256) (iadd .i64 (n : Int) ((inner.map pcRow).length : Int)) with
             | true =>
              repeat' ((first | refine bt ?_ | refine bf ?_ | refine vo_i hg ?_ | refine vpur_i hre ?_ | refine vpur_i hau ?_ | refine vpur_i hin ?_ | refine vl ?_ | fail) <;> conv => whnf)
              exact ⟨rfl, rfl⟩
             | false =>
              repeat' ((first | refine bt ?_ | refine bf ?_ | refine vo_i hg ?_ | refine vpur_i hre ?_ | refine vpur_i hau ?_ | refine vpur_i hin ?_ | refine vl ?_ | fail) <;> conv => whnf)
              exact ⟨rfl, rfl⟩
     · have hA : ¬ AutoK p.kind := fun h => hR (.inr h)
       rw [if_neg hR] at hiN
       rw [if_neg hA] at haN
       rw [pb_f hR] at hre
       have hgd : RepOkP p := fun h => (hR h).elim
       have hz : (!false) = true := rfl
       cases p with
       | mk kd vn names t c vi inner =>
       simp only [Pc.kind] at hre hau
       repeat' ((first | refine bt ?_ | refine bf ?_ | refine vo_i hg ?_ | refine vpur_i hre ?_ | refine vl ?_ | fail) <;> conv => whnf)
       refine ⟨⟨(k + 1, (n, a)), (by omega), ?_⟩, (by simp only; omega), (by repeat' (first | exact rfl | exact slot_eq (I_eq (iadd_one (by omega))) | (refine cons_eq ?_ ?_) | assumption)), rfl, rfl, rfl⟩
       simp only []
       exact ⟨by omega, by omega, by omega, by omega, hnext hgd⟩
   · have hl := nlt_len (f := pcRow) hlt
     have hkl : k = l.length := by omega
     subst hkl
     rw [List.take_length] at hn ha
     have hA : ∀ p ∈ l, RepOkP p := all_idx fun i p h h1 => hI i p h h1
     have hloo := loose_ok l hlen fun p hp => ⟨(hall p hp).1, (hall p hp).2.2⟩
     have hLo : LooseP l ↔ 0 < autN l ∧ ¬ AllFixP l := by unfold LooseP; rw [allP_fix, allP_auto hLi hA]
     have hG : GoodP l ↔ a ≤ 1 ∧ ¬ LooseP l := by
      rw [goodP_ne h0, hLo, ha]
      constructor
      · rintro ⟨_, _, _, h4, h5⟩
        exact ⟨h4, fun ⟨h6, h7⟩ => h7 (h5 (by omega))⟩
      · rintro ⟨h4, h5⟩
        exact ⟨hLi, hA, by omega, h4, fun h6 => Classical.byContradiction fun h7 => h5 ⟨by omega, h7⟩⟩
     rw [pb_congr hG]
     by_cases h1 : a ≤ 1
     · have e1 : ile (a : Int) (Int.ofNat 1) = true := by rw [ile_t, lit1]; omega
       by_cases hL : LooseP l
       · rw [pb_f fun h => h.2 hL]
         rw [pb_t hL] at hloo
         repeat' ((first | refine bt ?_ | refine bf ?_ | refine vb_f (by (first | omega | (simp only [ilt_t, ilt_f, ile_t, ile_f, ieq_t, ieq_f, ofn, List.length_map, Bool.not_eq_true', Bool.not_eq_false'] at *; omega))) ?_ | refine vpur_i hloo ?_ | refine vl ?_ | fail) <;> conv => whnf)
         exact ⟨rfl, rfl⟩
       · rw [pb_t ⟨h1, hL⟩]
         rw [pb_f hL] at hloo
         repeat' ((first | refine bt ?_ | refine bf ?_ | refine vb_f (by (first | omega | (simp only [ilt_t, ilt_f, ile_t, ile_f, ieq_t, ieq_f, ofn, List.length_map, Bool.not_eq_true', Bool.not_eq_false'] at *; omega))) ?_ | refine vpur_i hloo ?_ | refine vl ?_ | fail) <;> conv => whnf)
         exact ⟨rfl, rfl⟩
     · have e1 : ile (a : Int) (Int.ofNat 1) = false := by rw [ile_f, lit1]; omega
       rw [pb_f fun h => h1 h.1]
       repeat' ((first | refine bt ?_ | refine bf ?_ | refine vb_f (by (first | omega | (simp only [ilt_t, ilt_f, ile_t, ile_f, ieq_t, ieq_f, ofn, List.length_map, Bool.not_eq_true', Bool.not_eq_false'] at *; omega))) ?_ | refine vl ?_ | fail) <;> conv => whnf)
       exact ⟨rfl, rfl⟩
 · rw [pb_f hLi] at hal
   rw [pb_f fun h => hLi ((goodP_ne h0).1 h).1]
   have hnt : (!false) = true := rfl
   refine pur_code code14_ok ?_
   conv => whnf
   repeat' ((first | refine bt ?_ | refine bf ?_ | refine vpur_i hal ?_ | refine vl ?_ | fail) <;> conv => whnf)
   exact ⟨rfl, rfl⟩
end Go.Proofs.YtlhajccbfapieaaGreatDoor.Ab
namespace Go.Proofs.YtlhajccbfapieaaGreatDoor.Ab
open Go
set_option linter.unusedSimpArgs false
set_option maxRecDepth 100000
set_option linter.unusedVariables false
set_option maxHeartbeats 8000000
theorem rowStrs_ws : ∀ l : List (List UInt8), rowStrs (l.map wsRow) = some l
 | [] => rfl
 | a :: l => by
  have := rowStrs_ws l
  simp only [List.map_cons, rowStrs, this]
  rfl
theorem jnk_ok (l : List (List UInt8)) (h1 : l.length ≤ 140737488355328) (h2 : (Lib.join l [32]).length ≤ 140737488355328) : Pur F0 65 [.d (.sl 1 (l.map wsRow)), S [32]] [] .no (.ret (S (Lib.join l [32]))) .no := by
 refine pur_known (g := kJoin) (by kernel_rfl) ?_
 have e : (decide (l.length ≤ 140737488355328) && decide ((Lib.join l [32]).length ≤ 140737488355328)) = true := by simp [h1, h2]
 simp only [kJoin, rowStrs_ws, e]
theorem one_two' {q : Pc} (ha : AloneP q) (hk : ¬ RepK q.kind) : q.kind = 1 ∨ q.kind = 2 := by
 rcases ha with ⟨h, _⟩ | ⟨h, _⟩ | ⟨h, _⟩ | ⟨h, _⟩
 · exact .inl h
 · exact .inr h
 · exact (hk (.inl h)).elim
 · exact (hk (.inr h)).elim
def jH : JS → Heap
 | none => []
 | some (g, l) => [jB g l]
theorem joined_ok (L : List Pc) (J : List Pc → List UInt8) (m : Nat) (hL0 : L ≠ []) (hL : L.length ≤ 256) (hm : m ≤ 10000000) (hP : ∀ p ∈ L, TxP p) (hJl : ∀ p ∈ L, RepK p.kind → (J p.inner).length ≤ m)
 (hJ : ∀ kd vn names t cn vi inner, Pc.mk kd vn names t cn vi inner ∈ L → RepK kd → Pur F0 41 [.d vi] [] .no (.ret (S (J inner))) .no) :
 Pur F0 41 [.d (.sl 11 (L.map pcRow))] [] .no (.ret (S (Lib.join (L.map (pcX J)) [32]))) .no := by
 refine pur_code code41_ok ?_
 conv => whnf
 repeat' ((first | refine bt ?_ | refine bf ?_ | refine vl ?_ | fail) <;> conv => whnf)
 refine vloop_cnh (α := JS) L.length (fun k y => jL y = (L.take k).map (pcX J) ∧ (y = none → k = 0)) (fun k y => [(3, jA 0 y), (11, I (k : Int))]) (fun _ y => jH y) none ⟨rfl, fun _ => rfl⟩ rfl rfl ?_
 rintro k y hk ⟨hy, hy0⟩
 have hpos := List.length_pos_iff.2 hL0
 rcases Nat.lt_or_ge k L.length with hlt | hge
 · obtain ⟨p, hx⟩ := get_in hlt
   have hm' := List.mem_of_getElem? hx
   have hg := iget_map (f := pcRow) hx
   have hq := lt_len (f := pcRow) hlt
   have hp := hP p hm'
   have n1 : iadd .i64 (k : Int) (Int.ofNat 1) = ((k + 1 : Nat) : Int) := iadd_one (by omega)
   have hY : (L.take (k + 1)).map (pcX J) = jL y ++ [pcX J p] := by rw [List.take_add_one, hx, List.map_append, hy]; rfl
   have hll : (jL y).length ≤ 256 := by
    have := congrArg List.length hy
    simp only [List.length_map, List.length_take] at this; omega
   by_cases hk1 : p.kind = 1
   · obtain ⟨hn16, hn0⟩ := txP_names hp hk1
     have hsm := txP_small hp hk1
     have hX : pcX J p = brT p.names := if_pos hk1
     rw [hX] at hY
     have hpo := hp.1
     clear hJ hJl hP hp hX hm' hx
     cases hpo with
     | @mk kd vn names t cn vi inner hvn hvi hin =>
     simp only [Pc.kind, Pc.names] at hk1 hn16 hn0 hsm hY
     have q1 : ieq kd (Int.ofNat 1) = true := by rw [ieq_t]; exact hk1
     rcases hvn with ⟨rfl, hvn⟩ | rfl
     · exact (hn0 (List.map_eq_nil_iff.1 hvn)).elim
     rcases y with _ | ⟨g, l⟩
     · conv => whnf
       repeat' ((first | refine bt ?_ | refine bf ?_ | refine vo_i hg ?_ | refine vl ?_ | fail) <;> conv => whnf)
       refine vloop_cnh (α := JS) names.length (fun j z => jL z = (names.take j).map wrT ∧ (z = none → j = 0)) (fun j z => [(6, jA 0 z), (22, I (j : Int))]) (fun _ z => jH z) none ⟨rfl, fun _ => rfl⟩ rfl rfl ?_
       rintro j z hj ⟨hz, hz0⟩
       have hpz := List.length_pos_iff.2 hn0
       rcases Nat.lt_or_ge j names.length with hjl | hjg
       · obtain ⟨x, hxx⟩ := get_in hjl
         have hgx := iget_map (f := wsRow) hxx
         have hqx := lt_len (f := wsRow) hjl
         have hxl := wrT_len x
         have hW := iwrite_ok x
         have n2 : iadd .i64 (j : Int) (Int.ofNat 1) = ((j + 1 : Nat) : Int) := iadd_one (by omega)
         have hZ : (names.take (j + 1)).map wrT = jL z ++ [wrT x] := by rw [List.take_add_one, hxx, List.map_append, hz]; rfl
         rcases z with _ | ⟨g2, l2⟩
         · conv => whnf
           repeat' ((first | refine bt ?_ | refine bf ?_ | refine vo_i hgx ?_ | refine vpur_i hW ?_ | refine vb_t (room_t (by simp <;> omega)) ?_ | refine vl ?_ | fail) <;> conv => whnf)
           exact ⟨⟨(j + 1, some (0, [wrT x])), (by omega), ⟨hZ.symm, fun h => by cases h⟩⟩, (by simp only; omega), (by repeat' (first | exact rfl | exact slot_eq (I_eq n2) | refine cons_eq ?_ ?_)), rfl, rfl, rfl⟩
         · have hl2 : l2.length ≤ 16 := by
            have := congrArg List.length hz
            simp only [jL, List.length_map, List.length_take] at this; omega
           have hg2 : Nat.beq g2 g2 = true := by simp
           have hq2 := ieqL wsRow l2
           conv => whnf
           repeat' ((first | refine bt ?_ | refine bf ?_ | refine vo_i hgx ?_ | refine vpur_i hW ?_ | refine vb_t (room_t (by simp <;> omega)) ?_ | refine vl ?_ | fail) <;> conv => whnf)
           exact ⟨⟨(j + 1, some (g2 + 1, l2 ++ [wrT x])), (by omega), ⟨hZ.symm, fun h => by cases h⟩⟩, (by simp only; omega), (by repeat' (first | exact rfl | exact slot_eq (osl_eq rfl (by simp)) | exact slot_eq (I_eq n2) | refine cons_eq ?_ ?_)), (by repeat' (first | exact rfl | refine cons_eq ?_ ?_ | exact arr_eq2 rfl (by rw [List.map_append]; rfl))), rfl, rfl⟩
       · obtain rfl : j = names.length := by omega
         have hqx := nlt_len (f := wsRow) (Nat.not_lt.2 (Nat.le_refl names.length))
         rw [List.take_length] at hz
         rcases z with _ | ⟨g2, _ | ⟨a, l2⟩⟩
         · have := hz0 rfl; omega
         · have := congrArg List.length hz
           simp [jL] at this
           exact (hn0 (List.length_eq_zero_iff.1 (by omega))).elim
         · have hb : ∀ x ∈ (a :: l2), x.length ≤ 256 := fun x hx => by
            have hx : x ∈ names.map wrT := by rw [← hz]; exact hx
            obtain ⟨s, _, rfl⟩ := List.mem_map.1 hx
            exact wrT_len s
           have hl2 : (a :: l2).length ≤ 16 := by
            have := congrArg List.length hz
            simp only [jL, List.length_map] at this; omega
           have hJl2 := jn_len (a :: l2) 256 hb (by omega)
           have hJ2 := jnk_ok (a :: l2) (by omega) (by omega)
           have hg2 : Nat.beq g2 g2 = true := by simp
           have hcut := jcut a l2
           have hz : a :: l2 = names.map wrT := hz
           unfold brT at hY
           rw [← hz] at hY
           clear hz hb
           generalize Lib.join (a :: l2) [32] = V at *
           have hll : _ ≤ 256 := hll
           conv => whnf
           repeat' ((first | refine bt ?_ | refine bf ?_ | (rw [hcut]) | refine vpur_i hJ2 ?_ | refine vb_t (roomS_t (by simp <;> omega)) ?_ | refine vb_t (room_t (by simp [jL] at * <;> omega)) ?_ | refine vl ?_ | fail) <;> conv => whnf)
           exact ⟨⟨(k + 1, some (0, [_])), (by omega), ⟨hY.symm, fun h => by cases h⟩⟩, (by simp only; omega), (by repeat' (first | exact rfl | exact slot_eq (I_eq n1) | refine cons_eq ?_ ?_)), rfl, rfl, rfl⟩
     · have hgg : Nat.beq g g = true := by simp
       have hql := ieqL wsRow l
       conv => whnf
       repeat' ((first | refine bt ?_ | refine bf ?_ | refine vo_i hg ?_ | refine vl ?_ | fail) <;> conv => whnf)
       refine vloop_cnh (α := JS) names.length (fun j z => jL z = (names.take j).map wrT ∧ (z = none → j = 0)) (fun j z => [(6, jA 1 z), (22, I (j : Int))]) (fun _ z => jB g l :: jH z) none ⟨rfl, fun _ => rfl⟩ rfl rfl ?_
       rintro j z hj ⟨hz, hz0⟩
       have hpz := List.length_pos_iff.2 hn0
       rcases Nat.lt_or_ge j names.length with hjl | hjg
       · obtain ⟨x, hxx⟩ := get_in hjl
         have hgx := iget_map (f := wsRow) hxx
         have hqx := lt_len (f := wsRow) hjl
         have hxl := wrT_len x
         have hW := iwrite_ok x
         have n2 : iadd .i64 (j : Int) (Int.ofNat 1) = ((j + 1 : Nat) : Int) := iadd_one (by omega)
         have hZ : (names.take (j + 1)).map wrT = jL z ++ [wrT x] := by rw [List.take_add_one, hxx, List.map_append, hz]; rfl
         rcases z with _ | ⟨g2, l2⟩
         · conv => whnf
           repeat' ((first | refine bt ?_ | refine bf ?_ | refine vo_i hgx ?_ | refine vpur_i hW ?_ | refine vb_t (room_t (by simp <;> omega)) ?_ | refine vl ?_ | fail) <;> conv => whnf)
           exact ⟨⟨(j + 1, some (0, [wrT x])), (by omega), ⟨hZ.symm, fun h => by cases h⟩⟩, (by simp only; omega), (by repeat' (first | exact rfl | exact slot_eq (I_eq n2) | refine cons_eq ?_ ?_)), rfl, rfl, rfl⟩
         · have hl2 : l2.length ≤ 16 := by
            have := congrArg List.length hz
            simp only [jL, List.length_map, List.length_take] at this; omega
           have hg2 : Nat.beq g2 g2 = true := by simp
           have hq2 := ieqL wsRow l2
           conv => whnf
           repeat' ((first | refine bt ?_ | refine bf ?_ | refine vo_i hgx ?_ | refine vpur_i hW ?_ | refine vb_t (room_t (by simp <;> omega)) ?_ | refine vl ?_ | fail) <;> conv => whnf)
           exact ⟨⟨(j + 1, some (g2 + 1, l2 ++ [wrT x])), (by omega), ⟨hZ.symm, fun h => by cases h⟩⟩, (by simp only; omega), (by repeat' (first | exact rfl | exact slot_eq (osl_eq rfl (by simp)) | exact slot_eq (I_eq n2) | refine cons_eq ?_ ?_)), (by repeat' (first | exact rfl | refine cons_eq ?_ ?_ | exact arr_eq2 rfl (by rw [List.map_append]; rfl))), rfl, rfl⟩
       · obtain rfl : j = names.length := by omega
         have hqx := nlt_len (f := wsRow) (Nat.not_lt.2 (Nat.le_refl names.length))
         rw [List.take_length] at hz
         rcases z with _ | ⟨g2, _ | ⟨a, l2⟩⟩
         · have := hz0 rfl; omega
         · have := congrArg List.length hz
           simp [jL] at this
           exact (hn0 (List.length_eq_zero_iff.1 (by omega))).elim
         · have hb : ∀ x ∈ (a :: l2), x.length ≤ 256 := fun x hx => by
            have hx : x ∈ names.map wrT := by rw [← hz]; exact hx
            obtain ⟨s, _, rfl⟩ := List.mem_map.1 hx
            exact wrT_len s
           have hl2 : (a :: l2).length ≤ 16 := by
            have := congrArg List.length hz
            simp only [jL, List.length_map] at this; omega
           have hJl2 := jn_len (a :: l2) 256 hb (by omega)
           have hJ2 := jnk_ok (a :: l2) (by omega) (by omega)
           have hg2 : Nat.beq g2 g2 = true := by simp
           have hcut := jcut a l2
           have hz : a :: l2 = names.map wrT := hz
           unfold brT at hY
           rw [← hz] at hY
           clear hz hb
           generalize Lib.join (a :: l2) [32] = V at *
           have hll : _ ≤ 256 := hll
           conv => whnf
           repeat' ((first | refine bt ?_ | refine bf ?_ | (rw [hcut]) | refine vpur_i hJ2 ?_ | refine vb_t (roomS_t (by simp <;> omega)) ?_ | refine vb_t (room_t (by simp [jL] at * <;> omega)) ?_ | refine vl ?_ | fail) <;> conv => whnf)
           exact ⟨⟨(k + 1, some (g + 1, l ++ [_])), (by omega), ⟨hY.symm, fun h => by cases h⟩⟩, (by simp only; omega), (by repeat' (first | exact rfl | exact slot_eq (osl_eq rfl (by simp)) | exact slot_eq (I_eq n1) | refine cons_eq ?_ ?_)), (by repeat' (first | exact rfl | refine cons_eq ?_ ?_ | exact arr_eq2 rfl (by rw [List.map_append]; rfl))), rfl, rfl⟩
   · have hJp := fun kd vn names t cn vi inner (e : p = Pc.mk kd vn names t cn vi inner) (hr : RepK kd) => hJ kd vn names t cn vi inner (e ▸ hm') hr
     have hJlp := hJl p hm'
     have hrl := repW_len hp
     have hcn := rep_count hp.2
     by_cases hk2 : p.kind = 2
     · have hX : pcX J p = szT p.t := (if_neg hk1).trans (if_pos hk2)
       rw [hX] at hY
       have hS := tsizeText_ok p.t
       clear hJ hJl hP hp hX hm' hx hJp hJlp hrl hcn
       rcases p with ⟨kd, vn, names, ⟨a1, a2, a3, a4, a5, a6, a7⟩, cn, vi, inner⟩
       simp only [Pc.kind, Pc.t] at hk1 hk2 hS hY
       have q1 : ieq kd (Int.ofNat 1) = false := by rw [ieq_f]; exact hk1
       have q2 : ieq kd (Int.ofNat 2) = true := by rw [ieq_t]; exact hk2
       generalize szT ⟨a1, a2, a3, a4, a5, a6, a7⟩ = T at *
       rcases y with _ | ⟨g, l⟩
       · conv => whnf
         repeat' ((first | refine bt ?_ | refine bf ?_ | refine vo_i hg ?_ | refine vpur_i hS ?_ | refine vb_t (room_t (by simp [jL] at * <;> omega)) ?_ | refine vl ?_ | fail) <;> conv => whnf)
         exact ⟨⟨(k + 1, some (0, [_])), (by omega), ⟨hY.symm, fun h => by cases h⟩⟩, (by simp only; omega), (by repeat' (first | exact rfl | exact slot_eq (I_eq n1) | refine cons_eq ?_ ?_)), rfl, rfl, rfl⟩
       · have hgg : Nat.beq g g = true := by simp
         have hql := ieqL wsRow l
         conv => whnf
         repeat' ((first | refine bt ?_ | refine bf ?_ | refine vo_i hg ?_ | refine vpur_i hS ?_ | refine vb_t (room_t (by simp [jL] at * <;> omega)) ?_ | refine vl ?_ | fail) <;> conv => whnf)
         exact ⟨⟨(k + 1, some (g + 1, l ++ [_])), (by omega), ⟨hY.symm, fun h => by cases h⟩⟩, (by simp only; omega), (by repeat' (first | exact rfl | exact slot_eq (osl_eq rfl (by simp)) | exact slot_eq (I_eq n1) | refine cons_eq ?_ ?_)), (by repeat' (first | exact rfl | refine cons_eq ?_ ?_ | exact arr_eq2 rfl (by rw [List.map_append]; rfl))), rfl, rfl⟩
     · have hX : pcX J p = repB ++ repW p ++ [44, 32] ++ J p.inner ++ [41] := (if_neg hk1).trans (if_neg hk2)
       rw [hX] at hY
       have hr : RepK p.kind := by
        rcases hp.2 with ⟨h, _⟩ | ⟨h, _⟩ | ⟨h, _⟩ | ⟨h, _⟩
        · exact (hk1 h).elim
        · exact (hk2 h).elim
        · exact .inl h
        · exact .inr h
       have hJlp := hJlp hr
       unfold repW at hY hrl
       clear hJ hJl hP hp hX hm' hx
       rcases p with ⟨kd, vn, names, ⟨a1, a2, a3, a4, a5, a6, a7⟩, cn, vi, inner⟩
       have hS := hJp kd vn names _ cn vi inner rfl hr
       clear hJp
       simp only [Pc.kind, Pc.inner, Pc.count] at hk1 hk2 hY hr hJlp hrl hcn
       have q1 : ieq kd (Int.ofNat 1) = false := by rw [ieq_f]; exact hk1
       have q2 : ieq kd (Int.ofNat 2) = false := by rw [ieq_f]; exact hk2
       generalize J inner = T at *
       by_cases h3 : kd = 3
       · have q3 : ieq kd (Int.ofNat 3) = true := by rw [ieq_t]; exact h3
         obtain ⟨c0, c1⟩ := hcn h3
         have hI := itoa_ok' (x := cn) (u := cn.toNat) (by omega) (by omega) []
         have hD : repK kd cn = Lib.decDigits cn.toNat := if_pos h3
         rw [hD] at hrl hY
         generalize Lib.decDigits cn.toNat = D at *
         rcases y with _ | ⟨g, l⟩
         · conv => whnf
           repeat' ((first | refine bt ?_ | refine bf ?_ | refine vo_i hg ?_ | refine vpur_i hS ?_ | refine vpur_i hI ?_ | refine vb_t (roomS_t (by simp <;> omega)) ?_ | refine vb_t (room_t (by simp <;> omega)) ?_ | refine vl ?_ | fail) <;> conv => whnf)
           exact ⟨⟨(k + 1, some (0, [_])), (by omega), ⟨hY.symm, fun h => by cases h⟩⟩, (by simp only; omega), (by repeat' (first | exact rfl | exact slot_eq (I_eq n1) | refine cons_eq ?_ ?_)), rfl, rfl, rfl⟩
         · have hgg : Nat.beq g g = true := by simp
           have hql := ieqL wsRow l
           have hll : l.length ≤ 256 := hll
           conv => whnf
           repeat' ((first | refine bt ?_ | refine bf ?_ | refine vo_i hg ?_ | refine vpur_i hS ?_ | refine vpur_i hI ?_ | refine vb_t (roomS_t (by simp <;> omega)) ?_ | refine vb_t (room_t (by simp <;> omega)) ?_ | refine vl ?_ | fail) <;> conv => whnf)
           exact ⟨⟨(k + 1, some (g + 1, l ++ [_])), (by omega), ⟨hY.symm, fun h => by cases h⟩⟩, (by simp only; omega), (by repeat' (first | exact rfl | exact slot_eq (osl_eq rfl (by simp)) | exact slot_eq (I_eq n1) | refine cons_eq ?_ ?_)), (by repeat' (first | exact rfl | refine cons_eq ?_ ?_ | exact arr_eq2 rfl (by rw [List.map_append]; rfl))), rfl, rfl⟩
       · have q3 : ieq kd (Int.ofNat 3) = false := by rw [ieq_f]; exact h3
         by_cases h5 : kd = 5
         · have q4 : ieq kd (Int.ofNat 4) = false := by rw [ieq_f, h5]; decide
           have q5 : ieq kd (Int.ofNat 5) = true := by rw [ieq_t]; exact h5
           have hD : repK kd cn = afitB := (if_neg h3).trans (if_pos h5)
           rw [hD] at hrl hY
           rcases y with _ | ⟨g, l⟩
           · conv => whnf
             repeat' ((first | refine bt ?_ | refine bf ?_ | refine vo_i hg ?_ | refine vpur_i hS ?_ | refine vpur_i hS ?_ | refine vb_t (roomS_t (by simp <;> omega)) ?_ | refine vb_t (room_t (by simp <;> omega)) ?_ | refine vl ?_ | fail) <;> conv => whnf)
             exact ⟨⟨(k + 1, some (0, [_])), (by omega), ⟨hY.symm, fun h => by cases h⟩⟩, (by simp only; omega), (by repeat' (first | exact rfl | exact slot_eq (I_eq n1) | refine cons_eq ?_ ?_)), rfl, rfl, rfl⟩
           · have hgg : Nat.beq g g = true := by simp
             have hql := ieqL wsRow l
             have hll : l.length ≤ 256 := hll
             conv => whnf
             repeat' ((first | refine bt ?_ | refine bf ?_ | refine vo_i hg ?_ | refine vpur_i hS ?_ | refine vpur_i hS ?_ | refine vb_t (roomS_t (by simp <;> omega)) ?_ | refine vb_t (room_t (by simp <;> omega)) ?_ | refine vl ?_ | fail) <;> conv => whnf)
             exact ⟨⟨(k + 1, some (g + 1, l ++ [_])), (by omega), ⟨hY.symm, fun h => by cases h⟩⟩, (by simp only; omega), (by repeat' (first | exact rfl | exact slot_eq (osl_eq rfl (by simp)) | exact slot_eq (I_eq n1) | refine cons_eq ?_ ?_)), (by repeat' (first | exact rfl | refine cons_eq ?_ ?_ | exact arr_eq2 rfl (by rw [List.map_append]; rfl))), rfl, rfl⟩
         · have q4 : ieq kd (Int.ofNat 4) = true := by
            rw [ieq_t]
            rcases hr with h | h | h
            · exact (h3 h).elim
            · exact h
            · exact (h5 h).elim
           have hD : repK kd cn = afillB := (if_neg h3).trans (if_neg h5)
           rw [hD] at hrl hY
           rcases y with _ | ⟨g, l⟩
           · conv => whnf
             repeat' ((first | refine bt ?_ | refine bf ?_ | refine vo_i hg ?_ | refine vpur_i hS ?_ | refine vpur_i hS ?_ | refine vb_t (roomS_t (by simp <;> omega)) ?_ | refine vb_t (room_t (by simp <;> omega)) ?_ | refine vl ?_ | fail) <;> conv => whnf)
             exact ⟨⟨(k + 1, some (0, [_])), (by omega), ⟨hY.symm, fun h => by cases h⟩⟩, (by simp only; omega), (by repeat' (first | exact rfl | exact slot_eq (I_eq n1) | refine cons_eq ?_ ?_)), rfl, rfl, rfl⟩
           · have hgg : Nat.beq g g = true := by simp
             have hql := ieqL wsRow l
             have hll : l.length ≤ 256 := hll
             conv => whnf
             repeat' ((first | refine bt ?_ | refine bf ?_ | refine vo_i hg ?_ | refine vpur_i hS ?_ | refine vpur_i hS ?_ | refine vb_t (roomS_t (by simp <;> omega)) ?_ | refine vb_t (room_t (by simp <;> omega)) ?_ | refine vl ?_ | fail) <;> conv => whnf)
             exact ⟨⟨(k + 1, some (g + 1, l ++ [_])), (by omega), ⟨hY.symm, fun h => by cases h⟩⟩, (by simp only; omega), (by repeat' (first | exact rfl | exact slot_eq (osl_eq rfl (by simp)) | exact slot_eq (I_eq n1) | refine cons_eq ?_ ?_)), (by repeat' (first | exact rfl | refine cons_eq ?_ ?_ | exact arr_eq2 rfl (by rw [List.map_append]; rfl))), rfl, rfl⟩
 · obtain rfl : k = L.length := by omega
   have hq := nlt_len (f := pcRow) (Nat.not_lt.2 (Nat.le_refl L.length))
   rw [List.take_length] at hy
   rcases y with _ | ⟨g, _ | ⟨a, l⟩⟩
   · have := hy0 rfl; omega
   · have := congrArg List.length hy
     simp [jL] at this
     exact (hL0 (List.length_eq_zero_iff.1 (by omega))).elim
   · have hb : ∀ x ∈ (a :: l), x.length ≤ m + 5000 := fun x hx => by
      have hx : x ∈ L.map (pcX J) := by rw [← hy]; exact hx
      obtain ⟨s, hs, rfl⟩ := List.mem_map.1 hx
      by_cases hr : RepK s.kind
      · exact pcX_len (hP s hs) (hJl s hs hr)
      · have h12 := one_two' (hP s hs).2 hr
        unfold pcX
        rcases h12 with h | h
        · rw [if_pos h]; have := brT_len s.names (txP_names (hP s hs) h).1; omega
        · rw [if_neg (by omega), if_pos h]; have := szT_len s.t; omega
     have hll : (a :: l).length ≤ 256 := by
      have := congrArg List.length hy
      simp only [jL, List.length_map] at this; omega
     have hJl2 := jn_len (a :: l) (m + 5000) hb (by omega)
     have hJ2 := jnk_ok (a :: l) (by omega) (by omega)
     have hgg : Nat.beq g g = true := by simp
     have hcut := jcut a l
     have hy : a :: l = L.map (pcX J) := hy
     rw [← hy]
     clear hy hJ hJl hb hJl2
     generalize Lib.join (a :: l) [32] = V at *
     conv => whnf
     repeat' ((first | refine bt ?_ | refine bf ?_ | (rw [hcut]) | refine vpur_i hJ2 ?_ | refine vl ?_ | fail) <;> conv => whnf)
     exact ⟨rfl, rfl⟩
end Go.Proofs.YtlhajccbfapieaaGreatDoor.Ab
namespace Go.Proofs.YtlhajccbfapieaaGreatDoor.Ab
open Go
set_option linter.unusedSimpArgs false
set_option maxRecDepth 100000
set_option linter.unusedVariables false
set_option maxHeartbeats 8000000
theorem good_in6 {l : List Pc} (hG : GoodP l) (hall : ∀ p ∈ l, PcOk p) : l.length ≤ 256 ∧ ∀ p ∈ l, TxP p ∧ (RepK p.kind → p.inner ≠ [] ∧ p.inner.length ≤ 256 ∧ ∀ q ∈ p.inner, TxP q ∧ ¬ RepK q.kind) := by
 rcases hG with rfl | ⟨h1, h2, h3, _⟩
 · exact ⟨by simp, fun p hp => by cases hp⟩
 refine ⟨by omega, fun p hp => ?_⟩
 obtain ⟨i, hi⟩ := List.getElem?_of_mem hp
 refine ⟨⟨hall p hp, (h1.1 i p hi).1⟩, fun hk => ?_⟩
 have hL := h2 p hp hk
 obtain ⟨i2, q2, hi2, _⟩ := hL.2.1
 have hin : ∀ q ∈ p.inner, PcOk q := by
  have := hall p hp
  cases this with | mk hn hi h => exact h
 refine ⟨fun e => by rw [e] at hi2; simp at hi2, hL.2.2, fun q hq => ?_⟩
 obtain ⟨j, hj⟩ := List.getElem?_of_mem hq
 have := hL.1 j q hj
 exact ⟨⟨hin q hq, this.1⟩, fun h => this.2.1 ⟨rfl, h⟩⟩
def noneB : List UInt8 := [110, 111, 110, 101]
noncomputable def txT (l : List Pc) : List UInt8 := if l = [] then noneB else if pb (GoodP l) = true then joT l else []
theorem joined0_ok (L : List Pc) (hL0 : L ≠ []) (hL : L.length ≤ 256) (hP : ∀ q ∈ L, TxP q ∧ ¬ RepK q.kind) : Pur F0 41 [.d (.sl 11 (L.map pcRow))] [] .no (.ret (S (jo0 L))) .no :=
 joined_ok L (fun _ => []) 0 hL0 hL (by decide) (fun p hp => (hP p hp).1) (fun p hp _ => Nat.zero_le _) (fun kd vn names t cn vi inner hm hr => ((hP _ hm).2 hr).elim)
theorem pcX0_len {q : Pc} (h : TxP q) : (pcX (fun _ => []) q).length ≤ 5000 := by
 have := pcX_len (J := fun _ => []) (m := 0) h (Nat.zero_le _)
 omega
theorem jo0_len {L : List Pc} (hL : L.length ≤ 256) (hP : ∀ q ∈ L, TxP q ∧ ¬ RepK q.kind) : (jo0 L).length ≤ 5001000 := by
 have := jn_len (L.map (pcX fun _ => [])) 5000 (fun x hx => by obtain ⟨q, hq, rfl⟩ := List.mem_map.1 hx; exact pcX0_len (hP q hq).1) (by rw [List.length_map]; omega)
 unfold jo0
 omega
theorem joined1_ok (l : List Pc) (hG : GoodP l) (hall : ∀ p ∈ l, PcOk p) (h0 : l ≠ []) : Pur F0 41 [.d (.sl 11 (l.map pcRow))] [] .no (.ret (S (joT l))) .no := by
 obtain ⟨hl, hg⟩ := good_in6 hG hall
 refine joined_ok l jo0 5001000 h0 hl (by decide) (fun p hp => (hg p hp).1) (fun p hp hr => ?_) (fun kd vn names t cn vi inner hm hr => ?_)
 · obtain ⟨_, h2, h3⟩ := (hg p hp).2 hr
   exact jo0_len h2 h3
 · obtain ⟨h1, h2, h3⟩ := (hg _ hm).2 hr
   have hpo := hall _ hm
   cases hpo with
   | mk hvn hvi hin =>
   rcases hvi with ⟨rfl, hvi⟩ | rfl
   · exact (h1 (List.map_eq_nil_iff.1 hvi)).elim
   · exact joined0_ok inner h1 h2 h3
theorem ttext_ok (l : List Pc) (v : DV) (hv : SlV 11 (l.map pcRow) v) (hs : Sm2 l) (hall : ∀ p ∈ l, PcOk p) : Pur F0 16 [.d v] [] .no (.ret (S (txT l))) .no := by
 have hG := tgood_ok l v hv hs
 unfold txT
 rcases hv with ⟨rfl, hn⟩ | rfl
 · obtain rfl : l = [] := List.map_eq_nil_iff.1 hn
   have z : ieq (0 : Int) (Int.ofNat 0) = true := by rw [ieq_t]; rfl
   rw [if_pos rfl]
   refine pur_code code16_ok ?_
   conv => whnf
   repeat' ((first | refine bt ?_ | refine bf ?_ | refine vl ?_ | fail) <;> conv => whnf)
   exact ⟨rfl, rfl⟩
 · by_cases h0 : l = []
   · have z : ieq ((l.map pcRow).length : Int) (Int.ofNat 0) = true := by rw [ieq_t, h0]; rfl
     rw [if_pos h0]
     refine pur_code code16_ok ?_
     conv => whnf
     repeat' ((first | refine bt ?_ | refine bf ?_ | refine vl ?_ | fail) <;> conv => whnf)
     exact ⟨rfl, rfl⟩
   · have hp := List.length_pos_iff.2 h0
     have z : ieq ((l.map pcRow).length : Int) (Int.ofNat 0) = false := by rw [ieq_f, List.length_map, Int.ofNat_eq_natCast]; omega
     have hx : (!true) = false := rfl
     have hy : (!false) = true := rfl
     rw [if_neg h0]
     by_cases hg : GoodP l
     · have hJ := joined1_ok l hg hall h0
       rw [pb_t hg] at hG ⊢
       rw [if_pos rfl]
       refine pur_code code16_ok ?_
       conv => whnf
       repeat' ((first | refine bt ?_ | refine bf ?_ | refine vpur_i hG ?_ | refine vpur_i hJ ?_ | refine vl ?_ | fail) <;> conv => whnf)
       exact ⟨rfl, rfl⟩
     · rw [pb_f hg] at hG ⊢
       rw [if_neg (by simp)]
       refine pur_code code16_ok ?_
       conv => whnf
       repeat' ((first | refine bt ?_ | refine bf ?_ | refine vpur_i hG ?_ | refine vl ?_ | fail) <;> conv => whnf)
       exact ⟨rfl, rfl⟩
theorem clean_tx {q : Pc} (h : TxP q) (hk : ¬ RepK q.kind) : TxP (clean q) := by
 obtain ⟨hpo, hal⟩ := h
 cases hpo with
 | @mk kd vn names t cn vi inner hvn hvi hin =>
 refine ⟨.mk hvn (.inl ⟨rfl, rfl⟩) (fun q hq => by cases hq), ?_⟩
 rcases hal with ⟨h1, h2, h3, h4, h5⟩ | ⟨h1, h2, h3, h4, h5⟩ | ⟨h, _⟩ | ⟨h, _⟩
 · exact .inl ⟨h1, h2, rfl, h4, rfl⟩
 · exact .inr (.inl ⟨h1, h2, h3, rfl, rfl⟩)
 · exact (hk (.inl h)).elim
 · exact (hk (.inr h)).elim
theorem clean_eq (q : Pc) : (clean q).kind = q.kind ∧ (clean q).names = q.names ∧ (clean q).t = q.t := by cases q; exact ⟨rfl, rfl, rfl⟩
theorem rone0_ok (q : Pc) (h : TxP q) (hk : ¬ RepK q.kind) : Pur F0 42 [pcA (clean q)] [] .no (.ret (S (pcX (fun _ => []) q))) .no := by
 obtain ⟨e1, e2, e3⟩ := clean_eq q
 unfold pcX
 by_cases h1 : q.kind = 1
 · have := roneN_ok (clean q) (clean_tx h hk) (e1.trans h1)
   rw [e2] at this
   rw [if_pos h1]
   exact this
 · have h2 : q.kind = 2 := (one_two' h.2 hk).resolve_left h1
   have := roneT_ok (clean q) (e1.trans h2)
   rw [e3] at this
   rw [if_neg h1, if_pos h2]
   exact this
theorem rone1_ok (p : Pc) (h : TxP p) (hr : RepK p.kind → p.inner ≠ [] ∧ p.inner.length ≤ 256 ∧ ∀ q ∈ p.inner, TxP q ∧ ¬ RepK q.kind) : Pur F0 42 [pcA p] [] .no (.ret (S (pcX jo0 p))) .no := by
 unfold pcX
 by_cases h1 : p.kind = 1
 · rw [if_pos h1]
   exact roneN_ok p h h1
 · by_cases h2 : p.kind = 2
   · rw [if_neg h1, if_pos h2]
     exact roneT_ok p h2
   · rw [if_neg h1, if_neg h2]
     have hk : RepK p.kind := by
      by_cases hk : RepK p.kind
      · exact hk
      · rcases one_two' h.2 hk with h | h
        · exact (h1 h).elim
        · exact (h2 h).elim
     obtain ⟨g1, g2, g3⟩ := hr hk
     exact roneR_ok p h hk (pcX fun _ => []) 5000 g1 g2 (by decide) (fun q hq => pcX0_len (g3 q hq).1) (fun q hq => rone0_ok q (g3 q hq).1 (g3 q hq).2)
theorem rtext6_ok (l : List Pc) (v : DV) (hv : SlV 11 (l.map pcRow) v) (hs : Sm2 l) (hall : ∀ p ∈ l, PcOk p) : Pur F0 17 [.d v] [] .no (.ret (S (txT l))) .no := by
 have hG := rtgood_ok l v hv hs
 unfold txT
 rcases hv with ⟨rfl, hn⟩ | rfl
 · obtain rfl : l = [] := List.map_eq_nil_iff.1 hn
   have z : ieq (0 : Int) (Int.ofNat 0) = true := by rw [ieq_t]; rfl
   rw [if_pos rfl]
   refine pur_code code17_ok ?_
   conv => whnf
   repeat' ((first | refine bt ?_ | refine bf ?_ | refine vl ?_ | fail) <;> conv => whnf)
   exact ⟨rfl, rfl⟩
 · by_cases h0 : l = []
   · have z : ieq ((l.map pcRow).length : Int) (Int.ofNat 0) = true := by rw [ieq_t, h0]; rfl
     rw [if_pos h0]
     refine pur_code code17_ok ?_
     conv => whnf
     repeat' ((first | refine bt ?_ | refine bf ?_ | refine vl ?_ | fail) <;> conv => whnf)
     exact ⟨rfl, rfl⟩
   · have hpos := List.length_pos_iff.2 h0
     have z : ieq ((l.map pcRow).length : Int) (Int.ofNat 0) = false := by rw [ieq_f, List.length_map, Int.ofNat_eq_natCast]; omega
     have hx : (!true) = false := rfl
     have hy : (!false) = true := rfl
     rw [if_neg h0]
     by_cases hg : GoodP l
     · obtain ⟨hll, hgi⟩ := good_in6 hg hall
       rw [pb_t hg] at hG ⊢
       rw [if_pos rfl]
       refine pur_code code17_ok ?_
       conv => whnf
       repeat' ((first | refine bt ?_ | refine bf ?_ | refine vpur_i hG ?_ | refine vl ?_ | fail) <;> conv => whnf)
       refine vloop_cnh (α := JS) l.length (fun k y => jL y = (l.take k).map (pcX jo0) ∧ (y = none → k = 0)) (fun k y => [(3, jA 0 y), (4, I (k : Int))]) (fun _ y => jH y) none ⟨rfl, fun _ => rfl⟩ rfl rfl ?_
       rintro k y hk ⟨hy1, hy0⟩
       rcases Nat.lt_or_ge k l.length with hlt | hge
       · obtain ⟨p, hp⟩ := get_in hlt
         have hm := List.mem_of_getElem? hp
         have hgp := iget_map (f := pcRow) hp
         have hq := lt_len (f := pcRow) hlt
         have hW := rone1_ok p (hgi p hm).1 (hgi p hm).2
         have hlen := pcX_len (J := jo0) (m := 5001000) (hgi p hm).1
         have n1 : iadd .i64 (k : Int) (Int.ofNat 1) = ((k + 1 : Nat) : Int) := iadd_one (by omega)
         have hY : (l.take (k + 1)).map (pcX jo0) = jL y ++ [pcX jo0 p] := by rw [List.take_add_one, hp, List.map_append, hy1]; rfl
         have hl2 : (jL y).length ≤ 256 := by
          have := congrArg List.length hy1
          simp only [List.length_map, List.length_take] at this; omega
         generalize pcX jo0 p = T at *
         clear hp hm hlen hgi hall hs
         rcases p with ⟨kd, vn, names, ⟨a1, a2, a3, a4, a5, a6, a7⟩, cn, vi, inner⟩
         rcases y with _ | ⟨g, L⟩
         · conv => whnf
           repeat' ((first | refine bt ?_ | refine bf ?_ | refine vo_i hgp ?_ | refine vpur_i hW ?_ | refine vb_t (room_t (by simp <;> omega)) ?_ | refine vl ?_ | fail) <;> conv => whnf)
           exact ⟨⟨(k + 1, some (0, [T])), (by omega), ⟨hY.symm, fun h => by cases h⟩⟩, (by simp only; omega), (by repeat' (first | exact rfl | exact slot_eq (I_eq n1) | refine cons_eq ?_ ?_)), rfl, rfl, rfl⟩
         · have hgg : Nat.beq g g = true := by simp
           have hql := ieqL wsRow L
           have hl2 : L.length ≤ 256 := hl2
           conv => whnf
           repeat' ((first | refine bt ?_ | refine bf ?_ | refine vo_i hgp ?_ | refine vpur_i hW ?_ | refine vb_t (room_t (by simp <;> omega)) ?_ | refine vl ?_ | fail) <;> conv => whnf)
           exact ⟨⟨(k + 1, some (g + 1, L ++ [T])), (by omega), ⟨hY.symm, fun h => by cases h⟩⟩, (by simp only; omega), (by repeat' (first | exact rfl | exact slot_eq (osl_eq rfl (by simp)) | exact slot_eq (I_eq n1) | refine cons_eq ?_ ?_)), (by repeat' (first | exact rfl | refine cons_eq ?_ ?_ | exact arr_eq2 rfl (by rw [List.map_append]; rfl))), rfl, rfl⟩
       · obtain rfl : k = l.length := by omega
         have hq := nlt_len (f := pcRow) (Nat.not_lt.2 (Nat.le_refl l.length))
         rw [List.take_length] at hy1
         rcases y with _ | ⟨g, _ | ⟨a, L⟩⟩
         · have := hy0 rfl; omega
         · have := congrArg List.length hy1
           simp [jL] at this
           exact (h0 (List.length_eq_zero_iff.1 (by omega))).elim
         · have hb : ∀ x ∈ (a :: L), x.length ≤ 5006000 := fun x hx => by
            have hx : x ∈ l.map (pcX jo0) := by rw [← hy1]; exact hx
            obtain ⟨p, hp, rfl⟩ := List.mem_map.1 hx
            by_cases hr : RepK p.kind
            · obtain ⟨_, g2, g3⟩ := (hgi p hp).2 hr
              exact pcX_len (hgi p hp).1 (jo0_len g2 g3)
            · have h12 := one_two' (hgi p hp).1.2 hr
              unfold pcX
              rcases h12 with h | h
              · rw [if_pos h]; have := brT_len p.names (txP_names (hgi p hp).1 h).1; omega
              · rw [if_neg (by omega), if_pos h]; have := szT_len p.t; omega
           have hl2 : (a :: L).length ≤ 256 := by
            have := congrArg List.length hy1
            simp only [jL, List.length_map] at this; omega
           have hJ2 := rjoin_ok (a :: L) (by omega) (fun x hx => by have := hb x hx; omega)
           have hgg : Nat.beq g g = true := by simp
           have hcut := jcut a L
           have hy1 : a :: L = l.map (pcX jo0) := hy1
           unfold joT
           rw [← hy1]
           clear hy1 hb
           generalize Lib.join (a :: L) [32] = V at *
           conv => whnf
           repeat' ((first | refine bt ?_ | refine bf ?_ | (rw [hcut]) | refine vpur_i hJ2 ?_ | refine vl ?_ | fail) <;> conv => whnf)
           exact ⟨rfl, rfl⟩
     · rw [pb_f hg] at hG ⊢
       rw [if_neg (by simp)]
       refine pur_code code17_ok ?_
       conv => whnf
       repeat' ((first | refine bt ?_ | refine bf ?_ | refine vpur_i hG ?_ | refine vl ?_ | fail) <;> conv => whnf)
       exact ⟨rfl, rfl⟩
end Go.Proofs.YtlhajccbfapieaaGreatDoor.Ab
namespace Go.Proofs.YtlhajccbfapieaaGreatDoor.Ab
open Go
set_option linter.unusedSimpArgs false
set_option maxRecDepth 100000
set_option linter.unusedVariables false
set_option maxHeartbeats 4000000
theorem texts_sl (a b : List (List UInt8)) (ha : a.length ≤ 1000000000000000) : Pur F0 68 [.d (.sl 1 (a.map wsRow)), .d (.sl 1 (b.map wsRow))] [] .no (.ret (B (pb (a = b)))) .no := by
 refine pur_code code68_ok ?_
 conv => whnf
 by_cases hlen : a.length = b.length
 · have q : (!ieq ((a.map wsRow).length : Int) ((b.map wsRow).length : Int)) = false := by rw [Bool.not_eq_false', ieq_t, List.length_map, List.length_map, hlen]
   repeat' ((first | refine bt ?_ | refine bf ?_ | refine vl ?_ | fail) <;> conv => whnf)
   refine vloop_cnt (α := Unit) a.length (fun k _ => ∀ (i : Nat) (x : List UInt8), i < k → a[i]? = some x → b[i]? = some x) (fun k _ => [(5, I (k : Int))]) () (fun i x h => by omega) rfl ?_
   intro k _ hk hI
   conv => whnf
   by_cases hlt : k < a.length
   · obtain ⟨x, hx⟩ := get_in hlt
     obtain ⟨y, hy⟩ := get_in (l := b) (k := k) (by omega)
     have hg1 := iget_map (f := wsRow) hx
     have hg2 := iget_map (f := wsRow) hy
     have hl := lt_len (f := wsRow) hlt
     by_cases hxy : x = y
     · have q2 : (!seq x y) = false := by rw [Bool.not_eq_false', seq_t]; exact hxy
       have hn := upto_succ (P := fun i x => b[i]? = some x) hI hx (by rw [hy, hxy])
       repeat' ((first | refine bt ?_ | refine bf ?_ | refine vo_i hg1 ?_ | refine vo_i hg2 ?_ | refine vl ?_ | fail) <;> conv => whnf)
       exact ⟨⟨(k + 1, ()), (by omega), hn⟩, (by simp only; omega), (by repeat' (first | exact rfl | exact slot_eq (I_eq (iadd_one (by omega))) | (refine cons_eq ?_ ?_) | assumption)), rfl, rfl, rfl⟩
     · have q2 : (!seq x y) = true := by rw [Bool.not_eq_true', seq_f]; exact hxy
       have hA : pb (a = b) = false := pb_f fun h => by
        rw [h, hy] at hx
        exact hxy (Option.some.inj hx).symm
       rw [hA]
       repeat' ((first | refine bt ?_ | refine bf ?_ | refine vo_i hg1 ?_ | refine vo_i hg2 ?_ | refine vl ?_ | fail) <;> conv => whnf)
       exact ⟨rfl, rfl⟩
   · have hl := nlt_len (f := wsRow) hlt
     have hA : pb (a = b) = true := pb_t (List.ext_getElem? fun i => by
      rcases Nat.lt_or_ge i a.length with h | h
      · obtain ⟨x, hx⟩ := get_in h
        rw [hx, hI i x (by omega) hx]
      · rw [List.getElem?_eq_none h, List.getElem?_eq_none (by omega)])
     rw [hA]
     repeat' ((first | refine bt ?_ | refine bf ?_ | refine vb_f (by (first | omega | (simp only [ilt_t, ilt_f, ile_t, ile_f, ieq_t, ieq_f, ofn, List.length_map, Bool.not_eq_true', Bool.not_eq_false'] at *; omega))) ?_ | refine vl ?_ | fail) <;> conv => whnf)
     exact ⟨rfl, rfl⟩
 · have q : (!ieq ((a.map wsRow).length : Int) ((b.map wsRow).length : Int)) = true := by rw [Bool.not_eq_true', ieq_f, List.length_map, List.length_map]; omega
   rw [pb_f (p := a = b) (fun h => hlen (by rw [h]))]
   repeat' ((first | refine bt ?_ | refine bf ?_ | refine vl ?_ | fail) <;> conv => whnf)
   exact ⟨rfl, rfl⟩
theorem texts_nn : Pur F0 68 [.d .nilsl, .d .nilsl] [] .no (.ret (B true)) .no := pur_closed (n := 100) (by kernel_rfl)
end Go.Proofs.YtlhajccbfapieaaGreatDoor.Ab
namespace Go.Proofs.YtlhajccbfapieaaGreatDoor.Ab
open Go
set_option linter.unusedSimpArgs false
set_option maxRecDepth 100000
set_option linter.unusedVariables false
set_option maxHeartbeats 8000000
theorem ieqQ (a : Int) : ieq a a = true := by rw [ieq_t]
theorem texts_v (a b : List (List UInt8)) (va vb : DV) (ha : SlV 1 (a.map wsRow) va) (hb : SlV 1 (b.map wsRow) vb) (hl : a.length ≤ 1000000) : Pur F0 68 [.d va, .d vb] [] .no (.ret (B (pb (a = b)))) .no := by
 rcases ha with ⟨rfl, ha⟩ | rfl
 · obtain rfl : a = [] := List.map_eq_nil_iff.1 ha
   rcases hb with ⟨rfl, hb⟩ | rfl
   · obtain rfl : b = [] := List.map_eq_nil_iff.1 hb
     rw [pb_t rfl]
     exact texts_nn
   · by_cases h0 : b = []
     · subst h0
       rw [pb_t rfl]
       exact pur_closed (n := 100) (by kernel_rfl)
     · have hp := List.length_pos_iff.2 h0
       have z : (!ieq (0 : Int) ((b.map wsRow).length : Int)) = true := by rw [Bool.not_eq_true', ieq_f, List.length_map]; omega
       rw [pb_f (p := [] = b) (fun h => h0 h.symm)]
       refine pur_code code68_ok ?_
       conv => whnf
       repeat' ((first | refine bt ?_ | refine bf ?_ | refine vl ?_ | fail) <;> conv => whnf)
       exact ⟨rfl, rfl⟩
 · rcases hb with ⟨rfl, hb⟩ | rfl
   · obtain rfl : b = [] := List.map_eq_nil_iff.1 hb
     by_cases h0 : a = []
     · subst h0
       rw [pb_t rfl]
       exact pur_closed (n := 100) (by kernel_rfl)
     · have hp := List.length_pos_iff.2 h0
       have z : (!ieq ((a.map wsRow).length : Int) (0 : Int)) = true := by rw [Bool.not_eq_true', ieq_f, List.length_map]; omega
       rw [pb_f (p := a = []) h0]
       refine pur_code code68_ok ?_
       conv => whnf
       repeat' ((first | refine bt ?_ | refine bf ?_ | refine vl ?_ | fail) <;> conv => whnf)
       exact ⟨rfl, rfl⟩
   · exact texts_sl a b (by omega)
def KeyP (p q : Pc) : Prop := p.kind = q.kind ∧ p.names = q.names ∧ p.t = q.t ∧ p.count = q.count
def SmG (R : Pc → Pc → Prop) (a b : List Pc) : Prop := a.length = b.length ∧ ∀ (i : Nat) (p q : Pc), a[i]? = some p → b[i]? = some q → KeyP p q ∧ R p q
theorem smG_no {R : Pc → Pc → Prop} {a b : List Pc} {k : Nat} {p q : Pc} (hp : a[k]? = some p) (hq : b[k]? = some q) (h : ¬ (KeyP p q ∧ R p q)) : pb (SmG R a b) = false := pb_f fun hs => h (hs.2 k p q hp hq)
theorem smG_next {R : Pc → Pc → Prop} {a b : List Pc} {k : Nat} {p q : Pc} (hI : ∀ (i : Nat) (p q : Pc), i < k → a[i]? = some p → b[i]? = some q → KeyP p q ∧ R p q) (hp : a[k]? = some p) (hq : b[k]? = some q) (h : KeyP p q ∧ R p q) :
 ∀ (i : Nat) (p q : Pc), i < k + 1 → a[i]? = some p → b[i]? = some q → KeyP p q ∧ R p q := fun i x y hi hx hy => by
 rcases Nat.lt_or_ge i k with h1 | h1
 · exact hI i x y h1 hx hy
 · obtain rfl : i = k := by omega
   rw [hp] at hx; rw [hq] at hy
   cases hx; cases hy
   exact h
theorem not_f {x : Bool} (h : x = true) : (!x) = false := by rw [h]; rfl
theorem not_t {x : Bool} (h : x = false) : (!x) = true := by rw [h]; rfl
theorem rsame_gen (deep : Nat) (hd : 1 ≤ deep) (hd2 : deep ≤ 40) (a b : List Pc) (va vb : DV) (hva : SlV 11 (a.map pcRow) va) (hvb : SlV 11 (b.map pcRow) vb) (R : Pc → Pc → Prop) (hl : a.length ≤ 1000000) (ha : ∀ p ∈ a, PcOk p ∧ p.names.length ≤ 1000000) (hb : ∀ p ∈ b, PcOk p)
 (hR : ∀ k1 v1 n1 t1 c1 i1 l1 k2 v2 n2 t2 c2 i2 l2, Pc.mk k1 v1 n1 t1 c1 i1 l1 ∈ a → Pc.mk k2 v2 n2 t2 c2 i2 l2 ∈ b → Pur F0 44 [.d i1, .d i2, I ((deep - 1 : Nat) : Int)] [] .no (.ret (B (pb (R (Pc.mk k1 v1 n1 t1 c1 i1 l1) (Pc.mk k2 v2 n2 t2 c2 i2 l2))))) .no) :
 Pur F0 44 [.d va, .d vb, I (deep : Int)] [] .no (.ret (B (pb (SmG R a b)))) .no := by
 have hx : (!true) = false := rfl
 have hy : (!false) = true := rfl
 have wd : ilt (Int.ofNat 0) (deep : Int) = true := by rw [ilt_t, Int.ofNat_eq_natCast]; omega
 have wd1 : isub .i64 (deep : Int) (Int.ofNat 1) = ((deep - 1 : Nat) : Int) := by rw [Int.ofNat_eq_natCast, isub64 (by omega) (by omega)]; omega
 by_cases hlen : a.length = b.length
 · rcases hva with ⟨rfl, hva⟩ | rfl
   · obtain rfl : a = [] := List.map_eq_nil_iff.1 hva
     obtain rfl : b = [] := List.length_eq_zero_iff.1 hlen.symm
     rw [pb_t (p := SmG R [] []) ⟨rfl, fun i p q h => by simp at h⟩]
     have z : ∀ x : Int, x = 0 → (!ieq (0 : Int) x) = false := fun x h => by rw [Bool.not_eq_false', ieq_t]; omega
     have h00 : ilt (Int.ofNat 0) (0 : Int) = false := by rw [ilt_f]; decide
     rcases hvb with ⟨rfl, hvb⟩ | rfl
     · refine pur_code code44_ok ?_
       conv => whnf
       repeat' ((first | refine bt ?_ | refine bf ?_ | refine vb_f (z _ rfl) ?_ | refine vl ?_ | fail) <;> conv => whnf)
       refine vloop_once ?_
       conv => whnf
       repeat' ((first | refine bt ?_ | refine bf ?_ | refine vl ?_ | fail) <;> conv => whnf)
       exact ⟨rfl, rfl⟩
     · refine pur_code code44_ok ?_
       conv => whnf
       repeat' ((first | refine bt ?_ | refine bf ?_ | refine vb_f (z _ rfl) ?_ | refine vl ?_ | fail) <;> conv => whnf)
       refine vloop_once ?_
       conv => whnf
       repeat' ((first | refine bt ?_ | refine bf ?_ | refine vl ?_ | fail) <;> conv => whnf)
       exact ⟨rfl, rfl⟩
   · have hlb : (b.map pcRow).length = b.length := List.length_map ..
     rcases hvb with ⟨rfl, hvb⟩ | rfl
     · obtain rfl : b = [] := List.map_eq_nil_iff.1 hvb
       obtain rfl : a = [] := List.length_eq_zero_iff.1 hlen
       rw [pb_t (p := SmG R [] []) ⟨rfl, fun i p q h => by simp at h⟩]
       have z : ∀ x : Int, x = 0 → (!ieq x (0 : Int)) = false := fun x h => by rw [Bool.not_eq_false', ieq_t]; omega
       have h00 : ∀ x : Int, x = 0 → ilt (Int.ofNat 0) x = false := fun x h => by rw [h, ilt_f]; decide
       refine pur_code code44_ok ?_
       conv => whnf
       repeat' ((first | refine bt ?_ | refine bf ?_ | refine vb_f (z _ rfl) ?_ | refine vl ?_ | fail) <;> conv => whnf)
       refine vloop_once ?_
       conv => whnf
       repeat' ((first | refine bt ?_ | refine bf ?_ | refine vb_f (h00 _ rfl) ?_ | refine vl ?_ | fail) <;> conv => whnf)
       exact ⟨rfl, rfl⟩
     · have z : (!ieq ((a.map pcRow).length : Int) ((b.map pcRow).length : Int)) = false := by rw [Bool.not_eq_false', ieq_t, List.length_map, List.length_map, hlen]
       refine pur_code code44_ok ?_
       conv => whnf
       repeat' ((first | refine bt ?_ | refine bf ?_ | refine vl ?_ | fail) <;> conv => whnf)
       refine vloop_cnt (α := Unit) a.length (fun k _ => ∀ (i : Nat) (p q : Pc), i < k → a[i]? = some p → b[i]? = some q → KeyP p q ∧ R p q) (fun k _ => [(7, I (k : Int))]) () (fun i p q h => by omega) rfl ?_
       intro k _ hk hI
       rcases Nat.lt_or_ge k a.length with hlt | hge
       · obtain ⟨p, hp⟩ := get_in hlt
         obtain ⟨q, hq⟩ := get_in (l := b) (k := k) (by omega)
         have hg1 := iget_map (f := pcRow) hp
         have hg2 := iget_map (f := pcRow) hq
         have hql := lt_len (f := pcRow) hlt
         obtain ⟨hpo, hpn⟩ := ha p (List.mem_of_getElem? hp)
         have hqo := hb q (List.mem_of_getElem? hq)
         have hno := smG_no (R := R) hp hq
         have hnx := smG_next hI hp hq
         have n1 : iadd .i64 (k : Int) (Int.ofNat 1) = ((k + 1 : Nat) : Int) := iadd_one (by omega)
         have hRR := fun k1 v1 n1 t1 c1 i1 l1 k2 v2 n2 t2 c2 i2 l2 (e1 : p = Pc.mk k1 v1 n1 t1 c1 i1 l1) (e2 : q = Pc.mk k2 v2 n2 t2 c2 i2 l2) => hR k1 v1 n1 t1 c1 i1 l1 k2 v2 n2 t2 c2 i2 l2 (e1 ▸ List.mem_of_getElem? hp) (e2 ▸ List.mem_of_getElem? hq)
         clear hI hp hq ha hb hR
         cases hpo with
         | @mk k1 v1 m1 t1 c1 i1 l1 hvn hvi hin =>
         cases hqo with
         | @mk k2 v2 m2 t2 c2 i2 l2 hvn2 hvi2 hin2 =>
         have hT := texts_v m1 m2 v1 v2 hvn hvn2 hpn
         have hS := hRR _ _ _ _ _ _ _ _ _ _ _ _ _ _ rfl rfl
         rw [← wd1] at hS
         clear hRR hin hin2 hvi hvi2 hvn hvn2
         obtain ⟨a1, a2, a3, a4, a5, a6, a7⟩ := t1
         obtain ⟨b1, b2, b3, b4, b5, b6, b7⟩ := t2
         have hE := trk_eqB ⟨a1, a2, a3, a4, a5, a6, a7⟩ ⟨b1, b2, b3, b4, b5, b6, b7⟩
         by_cases e1 : k1 = k2
         · have f1 : (!ieq k1 k2) = false := by rw [Bool.not_eq_false', ieq_t]; exact e1
           by_cases e2 : m1 = m2
           · rw [pb_t e2] at hT
             by_cases e3 : (⟨a1, a2, a3, a4, a5, a6, a7⟩ : Trk) = ⟨b1, b2, b3, b4, b5, b6, b7⟩
             · rw [pb_t e3] at hE
               by_cases e4 : c1 = c2
               · have f4 : (!ieq c1 c2) = false := by rw [Bool.not_eq_false', ieq_t]; exact e4
                 by_cases e5 : R (Pc.mk k1 v1 m1 ⟨a1, a2, a3, a4, a5, a6, a7⟩ c1 i1 l1) (Pc.mk k2 v2 m2 ⟨b1, b2, b3, b4, b5, b6, b7⟩ c2 i2 l2)
                 · rw [pb_t e5] at hS
                   have hn := hnx ⟨⟨e1, e2, e3, e4⟩, e5⟩
                   clear hno hnx e5
                   conv => whnf
                   repeat' ((first | refine bt ?_ | refine bf ?_ | refine vo_i hg1 ?_ | refine vo_i hg2 ?_ | refine vpur_i hT ?_ | refine vb_f (not_f hE) ?_ | refine vpur_i hS ?_ | refine vl ?_ | fail) <;> conv => whnf)
                   exact ⟨⟨(k + 1, ()), (by omega), hn⟩, (by simp only; omega), (by repeat' (first | exact rfl | exact slot_eq (I_eq (iadd_one (by omega))) | (refine cons_eq ?_ ?_) | assumption)), rfl, rfl, rfl⟩
                 · rw [pb_f e5] at hS
                   rw [hno (fun h => e5 h.2)]
                   clear hno hnx
                   conv => whnf
                   repeat' ((first | refine bt ?_ | refine bf ?_ | refine vo_i hg1 ?_ | refine vo_i hg2 ?_ | refine vpur_i hT ?_ | refine vb_f (not_f hE) ?_ | refine vb_t (not_t hE) ?_ | refine vpur_i hS ?_ | refine vl ?_ | fail) <;> conv => whnf)
                   exact ⟨rfl, rfl⟩
               · have f4 : (!ieq c1 c2) = true := by rw [Bool.not_eq_true', ieq_f]; exact e4
                 rw [hno (fun h => e4 h.1.2.2.2)]
                 clear hno hnx
                 conv => whnf
                 repeat' ((first | refine bt ?_ | refine bf ?_ | refine vo_i hg1 ?_ | refine vo_i hg2 ?_ | refine vpur_i hT ?_ | refine vb_f (not_f hE) ?_ | refine vb_t (not_t hE) ?_ | refine vpur_i hS ?_ | refine vl ?_ | fail) <;> conv => whnf)
                 exact ⟨rfl, rfl⟩
             · rw [pb_f e3] at hE
               rw [hno (fun h => e3 h.1.2.2.1)]
               clear hno hnx
               conv => whnf
               repeat' ((first | refine bt ?_ | refine bf ?_ | refine vo_i hg1 ?_ | refine vo_i hg2 ?_ | refine vpur_i hT ?_ | refine vb_f (not_f hE) ?_ | refine vb_t (not_t hE) ?_ | refine vpur_i hS ?_ | refine vl ?_ | fail) <;> conv => whnf)
               exact ⟨rfl, rfl⟩
           · rw [pb_f e2] at hT
             rw [hno (fun h => e2 h.1.2.1)]
             clear hno hnx
             conv => whnf
             repeat' ((first | refine bt ?_ | refine bf ?_ | refine vo_i hg1 ?_ | refine vo_i hg2 ?_ | refine vpur_i hT ?_ | refine vb_f (not_f hE) ?_ | refine vb_t (not_t hE) ?_ | refine vpur_i hS ?_ | refine vl ?_ | fail) <;> conv => whnf)
             exact ⟨rfl, rfl⟩
         · have f1 : (!ieq k1 k2) = true := by rw [Bool.not_eq_true', ieq_f]; exact e1
           rw [hno (fun h => e1 h.1.1)]
           clear hno hnx
           conv => whnf
           repeat' ((first | refine bt ?_ | refine bf ?_ | refine vo_i hg1 ?_ | refine vo_i hg2 ?_ | refine vpur_i hT ?_ | refine vb_f (not_f hE) ?_ | refine vb_t (not_t hE) ?_ | refine vpur_i hS ?_ | refine vl ?_ | fail) <;> conv => whnf)
           exact ⟨rfl, rfl⟩
       · obtain rfl : k = a.length := by omega
         have hql := nlt_len (f := pcRow) (Nat.not_lt.2 (Nat.le_refl a.length))
         rw [pb_t (p := SmG R a b) ⟨hlen, fun i p q h1 h2 => hI i p q (List.getElem?_eq_some_iff.1 h1).1 h1 h2⟩]
         conv => whnf
         repeat' ((first | refine bt ?_ | refine bf ?_ | refine vl ?_ | fail) <;> conv => whnf)
         exact ⟨rfl, rfl⟩
 · rw [pb_f (p := SmG R a b) (fun h => hlen h.1)]
   have z : ∀ x y : Int, x = a.length → y = b.length → (!ieq x y) = true := fun x y h1 h2 => by rw [Bool.not_eq_true', ieq_f]; omega
   have hla : a.length = (a.map pcRow).length := (List.length_map ..).symm
   have hlb : b.length = (b.map pcRow).length := (List.length_map ..).symm
   rw [hla, hlb] at z
   rcases hva with ⟨rfl, hva⟩ | rfl
   · rw [hva] at z
     rcases hvb with ⟨rfl, hvb⟩ | rfl
     · rw [hvb] at z
       refine pur_code code44_ok ?_
       conv => whnf
       repeat' ((first | refine bt ?_ | refine bf ?_ | refine vb_t (z _ _ rfl rfl) ?_ | refine vl ?_ | fail) <;> conv => whnf)
       exact ⟨rfl, rfl⟩
     · refine pur_code code44_ok ?_
       conv => whnf
       repeat' ((first | refine bt ?_ | refine bf ?_ | refine vb_t (z _ _ rfl rfl) ?_ | refine vl ?_ | fail) <;> conv => whnf)
       exact ⟨rfl, rfl⟩
   · rcases hvb with ⟨rfl, hvb⟩ | rfl
     · rw [hvb] at z
       refine pur_code code44_ok ?_
       conv => whnf
       repeat' ((first | refine bt ?_ | refine bf ?_ | refine vb_t (z _ _ rfl rfl) ?_ | refine vl ?_ | fail) <;> conv => whnf)
       exact ⟨rfl, rfl⟩
     · refine pur_code code44_ok ?_
       conv => whnf
       repeat' ((first | refine bt ?_ | refine bf ?_ | refine vb_t (z _ _ rfl rfl) ?_ | refine vl ?_ | fail) <;> conv => whnf)
       exact ⟨rfl, rfl⟩
end Go.Proofs.YtlhajccbfapieaaGreatDoor.Ab
namespace Go.Proofs.YtlhajccbfapieaaGreatDoor.Ab
open Go
set_option linter.unusedSimpArgs false
set_option maxRecDepth 100000
set_option linter.unusedVariables false
set_option maxHeartbeats 8000000
theorem tsame_gen (a b : List Pc) (va vb : DV) (hva : SlV 11 (a.map pcRow) va) (hvb : SlV 11 (b.map pcRow) vb) (R : Pc → Pc → Prop) (hl : a.length ≤ 1000000) (ha : ∀ p ∈ a, PcOk p ∧ p.names.length ≤ 1000000) (hb : ∀ p ∈ b, PcOk p)
 (hR : ∀ k1 v1 n1 t1 c1 i1 l1 k2 v2 n2 t2 c2 i2 l2, Pc.mk k1 v1 n1 t1 c1 i1 l1 ∈ a → Pc.mk k2 v2 n2 t2 c2 i2 l2 ∈ b → Pur F0 18 [.d i1, .d i2] [] .no (.ret (B (pb (R (Pc.mk k1 v1 n1 t1 c1 i1 l1) (Pc.mk k2 v2 n2 t2 c2 i2 l2))))) .no) :
 Pur F0 18 [.d va, .d vb] [] .no (.ret (B (pb (SmG R a b)))) .no := by
 have hx : (!true) = false := rfl
 have hy : (!false) = true := rfl
 by_cases hlen : a.length = b.length
 · rcases hva with ⟨rfl, hva⟩ | rfl
   · obtain rfl : a = [] := List.map_eq_nil_iff.1 hva
     obtain rfl : b = [] := List.length_eq_zero_iff.1 hlen.symm
     rw [pb_t (p := SmG R [] []) ⟨rfl, fun i p q h => by simp at h⟩]
     have z : ∀ x : Int, x = 0 → (!ieq (0 : Int) x) = false := fun x h => by rw [Bool.not_eq_false', ieq_t]; omega
     have h00 : ilt (Int.ofNat 0) (0 : Int) = false := by rw [ilt_f]; decide
     rcases hvb with ⟨rfl, hvb⟩ | rfl
     · refine pur_code code18_ok ?_
       conv => whnf
       repeat' ((first | refine bt ?_ | refine bf ?_ | refine vb_f (z _ rfl) ?_ | refine vl ?_ | fail) <;> conv => whnf)
       refine vloop_once ?_
       conv => whnf
       repeat' ((first | refine bt ?_ | refine bf ?_ | refine vl ?_ | fail) <;> conv => whnf)
       exact ⟨rfl, rfl⟩
     · refine pur_code code18_ok ?_
       conv => whnf
       repeat' ((first | refine bt ?_ | refine bf ?_ | refine vb_f (z _ rfl) ?_ | refine vl ?_ | fail) <;> conv => whnf)
       refine vloop_once ?_
       conv => whnf
       repeat' ((first | refine bt ?_ | refine bf ?_ | refine vl ?_ | fail) <;> conv => whnf)
       exact ⟨rfl, rfl⟩
   · rcases hvb with ⟨rfl, hvb⟩ | rfl
     · obtain rfl : b = [] := List.map_eq_nil_iff.1 hvb
       obtain rfl : a = [] := List.length_eq_zero_iff.1 hlen
       rw [pb_t (p := SmG R [] []) ⟨rfl, fun i p q h => by simp at h⟩]
       have z : ∀ x : Int, x = 0 → (!ieq x (0 : Int)) = false := fun x h => by rw [Bool.not_eq_false', ieq_t]; omega
       have h00 : ∀ x : Int, x = 0 → ilt (Int.ofNat 0) x = false := fun x h => by rw [h, ilt_f]; decide
       refine pur_code code18_ok ?_
       conv => whnf
       repeat' ((first | refine bt ?_ | refine bf ?_ | refine vb_f (z _ rfl) ?_ | refine vl ?_ | fail) <;> conv => whnf)
       refine vloop_once ?_
       conv => whnf
       repeat' ((first | refine bt ?_ | refine bf ?_ | refine vb_f (h00 _ rfl) ?_ | refine vl ?_ | fail) <;> conv => whnf)
       exact ⟨rfl, rfl⟩
     · have z : (!ieq ((a.map pcRow).length : Int) ((b.map pcRow).length : Int)) = false := by rw [Bool.not_eq_false', ieq_t, List.length_map, List.length_map, hlen]
       refine pur_code code18_ok ?_
       conv => whnf
       repeat' ((first | refine bt ?_ | refine bf ?_ | refine vl ?_ | fail) <;> conv => whnf)
       refine vloop_cnt (α := Unit) a.length (fun k _ => ∀ (i : Nat) (p q : Pc), i < k → a[i]? = some p → b[i]? = some q → KeyP p q ∧ R p q) (fun k _ => [(16, I (k : Int))]) () (fun i p q h => by omega) rfl ?_
       intro k _ hk hI
       rcases Nat.lt_or_ge k a.length with hlt | hge
       · obtain ⟨p, hp⟩ := get_in hlt
         obtain ⟨q, hq⟩ := get_in (l := b) (k := k) (by omega)
         have hg1 := iget_map (f := pcRow) hp
         have hg2 := iget_map (f := pcRow) hq
         have hql := lt_len (f := pcRow) hlt
         obtain ⟨hpo, hpn⟩ := ha p (List.mem_of_getElem? hp)
         have hqo := hb q (List.mem_of_getElem? hq)
         have hno := smG_no (R := R) hp hq
         have hnx := smG_next hI hp hq
         have n1 : iadd .i64 (k : Int) (Int.ofNat 1) = ((k + 1 : Nat) : Int) := iadd_one (by omega)
         have hRR := fun k1 v1 n1 t1 c1 i1 l1 k2 v2 n2 t2 c2 i2 l2 (e1 : p = Pc.mk k1 v1 n1 t1 c1 i1 l1) (e2 : q = Pc.mk k2 v2 n2 t2 c2 i2 l2) => hR k1 v1 n1 t1 c1 i1 l1 k2 v2 n2 t2 c2 i2 l2 (e1 ▸ List.mem_of_getElem? hp) (e2 ▸ List.mem_of_getElem? hq)
         clear hI hp hq ha hb hR
         cases hpo with
         | @mk k1 v1 m1 t1 c1 i1 l1 hvn hvi hin =>
         cases hqo with
         | @mk k2 v2 m2 t2 c2 i2 l2 hvn2 hvi2 hin2 =>
         have hS := hRR _ _ _ _ _ _ _ _ _ _ _ _ _ _ rfl rfl
         clear hRR hin hin2 hvi hvi2
         obtain ⟨a1, a2, a3, a4, a5, a6, a7⟩ := t1
         obtain ⟨b1, b2, b3, b4, b5, b6, b7⟩ := t2
         have hE := trk_eqB ⟨a1, a2, a3, a4, a5, a6, a7⟩ ⟨b1, b2, b3, b4, b5, b6, b7⟩
         simp only [Pc.names] at hpn
         by_cases e1 : k1 = k2
         · have f1 : (!ieq k1 k2) = false := by rw [Bool.not_eq_false', ieq_t]; exact e1
           by_cases e3 : (⟨a1, a2, a3, a4, a5, a6, a7⟩ : Trk) = ⟨b1, b2, b3, b4, b5, b6, b7⟩
           · rw [pb_t e3] at hE
             by_cases e4 : c1 = c2
             · have f4 : (!ieq c1 c2) = false := by rw [Bool.not_eq_false', ieq_t]; exact e4
               by_cases e2 : m1.length = m2.length
               · by_cases e5 : R (Pc.mk k1 v1 m1 ⟨a1, a2, a3, a4, a5, a6, a7⟩ c1 i1 l1) (Pc.mk k2 v2 m2 ⟨b1, b2, b3, b4, b5, b6, b7⟩ c2 i2 l2)
                 · rw [pb_t e5] at hS
                   have hno2 := fun h : m1 ≠ m2 => hno (fun h' => h h'.1.2.1)
                   have hnx2 := fun h : m1 = m2 => hnx ⟨⟨e1, h, e3, e4⟩, e5⟩
                   clear e5 hno hnx
                   rcases hvn with ⟨rfl, hvn⟩ | rfl
                   · obtain rfl : m1 = [] := List.map_eq_nil_iff.1 hvn
                     obtain rfl : m2 = [] := List.length_eq_zero_iff.1 e2.symm
                     have hn := hnx2 rfl
                     have h00 : ilt (Int.ofNat 0) (0 : Int) = false := by rw [ilt_f]; decide
                     rcases hvn2 with ⟨rfl, hvn2⟩ | rfl
                     · conv => whnf
                       repeat' ((first | refine bt ?_ | refine bf ?_ | refine vo_i hg1 ?_ | refine vo_i hg2 ?_ | refine vb_f (not_f hE) ?_ | refine vpur_i hS ?_ | refine vb_f (not_f (ieqQ _)) ?_ | refine vl ?_ | fail) <;> conv => whnf)
                       refine vloop_once ?_
                       conv => whnf
                       repeat' ((first | refine bt ?_ | refine bf ?_ | refine vl ?_ | fail) <;> conv => whnf)
                       exact ⟨⟨(k + 1, ()), (by omega), hn⟩, (by simp only; omega), (by repeat' (first | exact rfl | exact slot_eq (I_eq (iadd_one (by omega))) | (refine cons_eq ?_ ?_) | assumption)), rfl, rfl, rfl⟩
                     · conv => whnf
                       repeat' ((first | refine bt ?_ | refine bf ?_ | refine vo_i hg1 ?_ | refine vo_i hg2 ?_ | refine vb_f (not_f hE) ?_ | refine vpur_i hS ?_ | refine vb_f (not_f (ieqQ _)) ?_ | refine vl ?_ | fail) <;> conv => whnf)
                       refine vloop_once ?_
                       conv => whnf
                       repeat' ((first | refine bt ?_ | refine bf ?_ | refine vl ?_ | fail) <;> conv => whnf)
                       exact ⟨⟨(k + 1, ()), (by omega), hn⟩, (by simp only; omega), (by repeat' (first | exact rfl | exact slot_eq (I_eq (iadd_one (by omega))) | (refine cons_eq ?_ ?_) | assumption)), rfl, rfl, rfl⟩
                   · rcases hvn2 with ⟨rfl, hvn2⟩ | rfl
                     · obtain rfl : m2 = [] := List.map_eq_nil_iff.1 hvn2
                       obtain rfl : m1 = [] := List.length_eq_zero_iff.1 e2
                       have hn := hnx2 rfl
                       have h00 : ∀ x : Int, x = 0 → ilt (Int.ofNat 0) x = false := fun x h => by rw [h, ilt_f]; decide
                       conv => whnf
                       repeat' ((first | refine bt ?_ | refine bf ?_ | refine vo_i hg1 ?_ | refine vo_i hg2 ?_ | refine vb_f (not_f hE) ?_ | refine vpur_i hS ?_ | refine vb_f (not_f (ieqQ _)) ?_ | refine vl ?_ | fail) <;> conv => whnf)
                       refine vloop_once ?_
                       conv => whnf
                       repeat' ((first | refine bt ?_ | refine bf ?_ | refine vb_f (h00 _ rfl) ?_ | refine vl ?_ | fail) <;> conv => whnf)
                       exact ⟨⟨(k + 1, ()), (by omega), hn⟩, (by simp only; omega), (by repeat' (first | exact rfl | exact slot_eq (I_eq (iadd_one (by omega))) | (refine cons_eq ?_ ?_) | assumption)), rfl, rfl, rfl⟩
                     · have f2 : (!ieq ((m1.map wsRow).length : Int) ((m2.map wsRow).length : Int)) = false := by rw [Bool.not_eq_false', ieq_t, List.length_map, List.length_map, e2]
                       conv => whnf
                       repeat' ((first | refine bt ?_ | refine bf ?_ | refine vo_i hg1 ?_ | refine vo_i hg2 ?_ | refine vb_f (not_f hE) ?_ | refine vpur_i hS ?_ | refine vl ?_ | fail) <;> conv => whnf)
                       refine vloop_cnt (α := Unit) m1.length (fun j _ => ∀ (i : Nat) (x : List UInt8), i < j → m1[i]? = some x → m2[i]? = some x) (fun j _ => [(64, I (j : Int))]) () (fun i x h => by omega) rfl ?_
                       intro j _ hj hJ
                       rcases Nat.lt_or_ge j m1.length with hjl | hjg
                       · obtain ⟨x, hx1⟩ := get_in hjl
                         obtain ⟨y, hy1⟩ := get_in (l := m2) (k := j) (by omega)
                         have hgx := iget_map (f := wsRow) hx1
                         have hgy := iget_map (f := wsRow) hy1
                         have hqj := lt_len (f := wsRow) hjl
                         have n2 : iadd .i64 (j : Int) (Int.ofNat 1) = ((j + 1 : Nat) : Int) := iadd_one (by omega)
                         by_cases hxy : x = y
                         · have q2 : (!seq x y) = false := by rw [Bool.not_eq_false', seq_t]; exact hxy
                           have hn := upto_succ (P := fun i x => m2[i]? = some x) hJ hx1 (by rw [hy1, hxy])
                           conv => whnf
                           repeat' ((first | refine bt ?_ | refine bf ?_ | refine vo_i hgx ?_ | refine vo_i hgy ?_ | refine vl ?_ | fail) <;> conv => whnf)
                           exact ⟨⟨(j + 1, ()), (by omega), hn⟩, (by simp only; omega), (by repeat' (first | exact rfl | exact slot_eq (I_eq (iadd_one (by omega))) | (refine cons_eq ?_ ?_) | assumption)), rfl, rfl, rfl⟩
                         · have q2 : (!seq x y) = true := by rw [Bool.not_eq_true', seq_f]; exact hxy
                           rw [hno2 (fun h => by rw [h, hy1] at hx1; exact hxy (Option.some.inj hx1).symm)]
                           conv => whnf
                           repeat' ((first | refine bt ?_ | refine bf ?_ | refine vo_i hgx ?_ | refine vo_i hgy ?_ | refine vl ?_ | fail) <;> conv => whnf)
                           exact ⟨rfl, rfl⟩
                       · obtain rfl : j = m1.length := by omega
                         have hqj := nlt_len (f := wsRow) (Nat.not_lt.2 (Nat.le_refl m1.length))
                         have hn := hnx2 (List.ext_getElem? fun i => by
                          rcases Nat.lt_or_ge i m1.length with h | h
                          · obtain ⟨x, hx⟩ := get_in h
                            rw [hx, hJ i x h hx]
                          · rw [List.getElem?_eq_none h, List.getElem?_eq_none (by omega)])
                         conv => whnf
                         repeat' ((first | refine bt ?_ | refine bf ?_ | refine vl ?_ | fail) <;> conv => whnf)
                         exact ⟨⟨(k + 1, ()), (by omega), hn⟩, (by simp only; omega), (by repeat' (first | exact rfl | exact slot_eq (I_eq (iadd_one (by omega))) | (refine cons_eq ?_ ?_) | assumption)), rfl, rfl, rfl⟩
                 · rw [pb_f e5] at hS
                   rw [hno (fun h => e5 h.2)]
                   have f2 : ∀ x y : Int, x = (m1.map wsRow).length → y = (m2.map wsRow).length → (!ieq x y) = false := fun x y h1 h2 => by rw [Bool.not_eq_false', ieq_t, h1, h2, List.length_map, List.length_map, e2]
                   clear hno hnx
                   rcases hvn with ⟨rfl, hvn⟩ | rfl
                   · rw [hvn] at f2
                     rcases hvn2 with ⟨rfl, hvn2⟩ | rfl
                     · rw [hvn2] at f2
                       conv => whnf
                       repeat' ((first | refine bt ?_ | refine bf ?_ | refine vo_i hg1 ?_ | refine vo_i hg2 ?_ | refine vb_f (not_f hE) ?_ | refine vb_f (f2 _ _ rfl rfl) ?_ | refine vpur_i hS ?_ | refine vl ?_ | fail) <;> conv => whnf)
                       exact ⟨rfl, rfl⟩
                     · conv => whnf
                       repeat' ((first | refine bt ?_ | refine bf ?_ | refine vo_i hg1 ?_ | refine vo_i hg2 ?_ | refine vb_f (not_f hE) ?_ | refine vb_f (f2 _ _ rfl rfl) ?_ | refine vpur_i hS ?_ | refine vl ?_ | fail) <;> conv => whnf)
                       exact ⟨rfl, rfl⟩
                   · rcases hvn2 with ⟨rfl, hvn2⟩ | rfl
                     · rw [hvn2] at f2
                       conv => whnf
                       repeat' ((first | refine bt ?_ | refine bf ?_ | refine vo_i hg1 ?_ | refine vo_i hg2 ?_ | refine vb_f (not_f hE) ?_ | refine vb_f (f2 _ _ rfl rfl) ?_ | refine vpur_i hS ?_ | refine vl ?_ | fail) <;> conv => whnf)
                       exact ⟨rfl, rfl⟩
                     · conv => whnf
                       repeat' ((first | refine bt ?_ | refine bf ?_ | refine vo_i hg1 ?_ | refine vo_i hg2 ?_ | refine vb_f (not_f hE) ?_ | refine vb_f (f2 _ _ rfl rfl) ?_ | refine vpur_i hS ?_ | refine vl ?_ | fail) <;> conv => whnf)
                       exact ⟨rfl, rfl⟩
               · rw [hno (fun h => e2 (congrArg List.length h.1.2.1))]
                 have f2 : ∀ x y : Int, x = (m1.map wsRow).length → y = (m2.map wsRow).length → (!ieq x y) = true := fun x y h1 h2 => by rw [Bool.not_eq_true', ieq_f, h1, h2, List.length_map, List.length_map]; omega
                 clear hno hnx
                 rcases hvn with ⟨rfl, hvn⟩ | rfl
                 · rw [hvn] at f2
                   rcases hvn2 with ⟨rfl, hvn2⟩ | rfl
                   · rw [hvn2] at f2
                     conv => whnf
                     repeat' ((first | refine bt ?_ | refine bf ?_ | refine vo_i hg1 ?_ | refine vo_i hg2 ?_ | refine vb_f (not_f hE) ?_ | refine vb_t (f2 _ _ rfl rfl) ?_ | refine vpur_i hS ?_ | refine vl ?_ | fail) <;> conv => whnf)
                     exact ⟨rfl, rfl⟩
                   · conv => whnf
                     repeat' ((first | refine bt ?_ | refine bf ?_ | refine vo_i hg1 ?_ | refine vo_i hg2 ?_ | refine vb_f (not_f hE) ?_ | refine vb_t (f2 _ _ rfl rfl) ?_ | refine vpur_i hS ?_ | refine vl ?_ | fail) <;> conv => whnf)
                     exact ⟨rfl, rfl⟩
                 · rcases hvn2 with ⟨rfl, hvn2⟩ | rfl
                   · rw [hvn2] at f2
                     conv => whnf
                     repeat' ((first | refine bt ?_ | refine bf ?_ | refine vo_i hg1 ?_ | refine vo_i hg2 ?_ | refine vb_f (not_f hE) ?_ | refine vb_t (f2 _ _ rfl rfl) ?_ | refine vpur_i hS ?_ | refine vl ?_ | fail) <;> conv => whnf)
                     exact ⟨rfl, rfl⟩
                   · conv => whnf
                     repeat' ((first | refine bt ?_ | refine bf ?_ | refine vo_i hg1 ?_ | refine vo_i hg2 ?_ | refine vb_f (not_f hE) ?_ | refine vb_t (f2 _ _ rfl rfl) ?_ | refine vpur_i hS ?_ | refine vl ?_ | fail) <;> conv => whnf)
                     exact ⟨rfl, rfl⟩
             · have f4 : (!ieq c1 c2) = true := by rw [Bool.not_eq_true', ieq_f]; exact e4
               rw [hno (fun h => e4 h.1.2.2.2)]
               clear hno hnx
               conv => whnf
               repeat' ((first | refine bt ?_ | refine bf ?_ | refine vo_i hg1 ?_ | refine vo_i hg2 ?_ | refine vb_f (not_f hE) ?_ | refine vb_t (not_t hE) ?_ | refine vl ?_ | fail) <;> conv => whnf)
               exact ⟨rfl, rfl⟩
           · rw [pb_f e3] at hE
             rw [hno (fun h => e3 h.1.2.2.1)]
             clear hno hnx
             conv => whnf
             repeat' ((first | refine bt ?_ | refine bf ?_ | refine vo_i hg1 ?_ | refine vo_i hg2 ?_ | refine vb_f (not_f hE) ?_ | refine vb_t (not_t hE) ?_ | refine vl ?_ | fail) <;> conv => whnf)
             exact ⟨rfl, rfl⟩
         · have f1 : (!ieq k1 k2) = true := by rw [Bool.not_eq_true', ieq_f]; exact e1
           rw [hno (fun h => e1 h.1.1)]
           clear hno hnx
           conv => whnf
           repeat' ((first | refine bt ?_ | refine bf ?_ | refine vo_i hg1 ?_ | refine vo_i hg2 ?_ | refine vb_f (not_f hE) ?_ | refine vb_t (not_t hE) ?_ | refine vl ?_ | fail) <;> conv => whnf)
           exact ⟨rfl, rfl⟩
       · obtain rfl : k = a.length := by omega
         have hql := nlt_len (f := pcRow) (Nat.not_lt.2 (Nat.le_refl a.length))
         rw [pb_t (p := SmG R a b) ⟨hlen, fun i p q h1 h2 => hI i p q (List.getElem?_eq_some_iff.1 h1).1 h1 h2⟩]
         conv => whnf
         repeat' ((first | refine bt ?_ | refine bf ?_ | refine vl ?_ | fail) <;> conv => whnf)
         exact ⟨rfl, rfl⟩
 · rw [pb_f (p := SmG R a b) (fun h => hlen h.1)]
   have z : ∀ x y : Int, x = a.length → y = b.length → (!ieq x y) = true := fun x y h1 h2 => by rw [Bool.not_eq_true', ieq_f]; omega
   have hla : a.length = (a.map pcRow).length := (List.length_map ..).symm
   have hlb : b.length = (b.map pcRow).length := (List.length_map ..).symm
   rw [hla, hlb] at z
   rcases hva with ⟨rfl, hva⟩ | rfl
   · rw [hva] at z
     rcases hvb with ⟨rfl, hvb⟩ | rfl
     · rw [hvb] at z
       refine pur_code code18_ok ?_
       conv => whnf
       repeat' ((first | refine bt ?_ | refine bf ?_ | refine vb_t (z _ _ rfl rfl) ?_ | refine vl ?_ | fail) <;> conv => whnf)
       exact ⟨rfl, rfl⟩
     · refine pur_code code18_ok ?_
       conv => whnf
       repeat' ((first | refine bt ?_ | refine bf ?_ | refine vb_t (z _ _ rfl rfl) ?_ | refine vl ?_ | fail) <;> conv => whnf)
       exact ⟨rfl, rfl⟩
   · rcases hvb with ⟨rfl, hvb⟩ | rfl
     · rw [hvb] at z
       refine pur_code code18_ok ?_
       conv => whnf
       repeat' ((first | refine bt ?_ | refine bf ?_ | refine vb_t (z _ _ rfl rfl) ?_ | refine vl ?_ | fail) <;> conv => whnf)
       exact ⟨rfl, rfl⟩
     · refine pur_code code18_ok ?_
       conv => whnf
       repeat' ((first | refine bt ?_ | refine bf ?_ | refine vb_t (z _ _ rfl rfl) ?_ | refine vl ?_ | fail) <;> conv => whnf)
       exact ⟨rfl, rfl⟩
def SmF (p : Pc) : Prop := PcOk p ∧ p.names.length ≤ 1000000 ∧ p.inner = []
def R0 : Pc → Pc → Prop := fun _ _ => True
def R1 : Pc → Pc → Prop := fun p q => SmG R0 p.inner q.inner
def R2 : Pc → Pc → Prop := fun p q => SmG R1 p.inner q.inner
theorem slv_in {k : Int} {v : DV} {n : List (List UInt8)} {t : Trk} {c : Int} {i : DV} {l : List Pc} (h : PcOk (Pc.mk k v n t c i l)) : SlV 11 (l.map pcRow) i ∧ ∀ q ∈ l, PcOk q := by
 cases h with | mk hn hi hin => exact ⟨hi, hin⟩
theorem tsame1_ok (a b : List Pc) (va vb : DV) (hva : SlV 11 (a.map pcRow) va) (hvb : SlV 11 (b.map pcRow) vb) (hl : a.length ≤ 1000000) (ha : ∀ p ∈ a, SmF p) (hb : ∀ p ∈ b, SmF p) : Pur F0 18 [.d va, .d vb] [] .no (.ret (B (pb (SmG R1 a b)))) .no := by
 refine tsame_gen a b va vb hva hvb R1 hl (fun p hp => ⟨(ha p hp).1, (ha p hp).2.1⟩) (fun p hp => (hb p hp).1) (fun k1 v1 n1 t1 c1 i1 l1 k2 v2 n2 t2 c2 i2 l2 h1 h2 => ?_)
 obtain ⟨g1, _, g3⟩ := ha _ h1
 obtain ⟨g4, _, g6⟩ := hb _ h2
 simp only [Pc.inner] at g3 g6
 subst g3 g6
 exact tsame_gen [] [] i1 i2 (slv_in g1).1 (slv_in g4).1 R0 (by simp) (fun p hp => by cases hp) (fun p hp => by cases hp) (fun _ _ _ _ _ _ _ _ _ _ _ _ _ _ h => by cases h)
theorem rsame1_ok (d : Nat) (hd : 2 ≤ d) (hd2 : d ≤ 40) (a b : List Pc) (va vb : DV) (hva : SlV 11 (a.map pcRow) va) (hvb : SlV 11 (b.map pcRow) vb) (hl : a.length ≤ 1000000) (ha : ∀ p ∈ a, SmF p) (hb : ∀ p ∈ b, SmF p) : Pur F0 44 [.d va, .d vb, I (d : Int)] [] .no (.ret (B (pb (SmG R1 a b)))) .no := by
 refine rsame_gen d (by omega) hd2 a b va vb hva hvb R1 hl (fun p hp => ⟨(ha p hp).1, (ha p hp).2.1⟩) (fun p hp => (hb p hp).1) (fun k1 v1 n1 t1 c1 i1 l1 k2 v2 n2 t2 c2 i2 l2 h1 h2 => ?_)
 obtain ⟨g1, _, g3⟩ := ha _ h1
 obtain ⟨g4, _, g6⟩ := hb _ h2
 simp only [Pc.inner] at g3 g6
 subst g3 g6
 exact rsame_gen (d - 1) (by omega) (by omega) [] [] i1 i2 (slv_in g1).1 (slv_in g4).1 R0 (by simp) (fun p hp => by cases hp) (fun p hp => by cases hp) (fun _ _ _ _ _ _ _ _ _ _ _ _ _ _ h => by cases h)
def SmD (p : Pc) : Prop := PcOk p ∧ p.names.length ≤ 1000000 ∧ p.inner.length ≤ 1000000 ∧ ∀ q ∈ p.inner, SmF q
theorem tsame_ok (a b : List Pc) (va vb : DV) (hva : SlV 11 (a.map pcRow) va) (hvb : SlV 11 (b.map pcRow) vb) (hl : a.length ≤ 1000000) (ha : ∀ p ∈ a, SmD p) (hb : ∀ p ∈ b, SmD p) : Pur F0 18 [.d va, .d vb] [] .no (.ret (B (pb (SmG R2 a b)))) .no := by
 refine tsame_gen a b va vb hva hvb R2 hl (fun p hp => ⟨(ha p hp).1, (ha p hp).2.1⟩) (fun p hp => (hb p hp).1) (fun k1 v1 n1 t1 c1 i1 l1 k2 v2 n2 t2 c2 i2 l2 h1 h2 => ?_)
 obtain ⟨g1, _, g3, g5⟩ := ha _ h1
 obtain ⟨g4, _, _, g6⟩ := hb _ h2
 exact tsame1_ok l1 l2 i1 i2 (slv_in g1).1 (slv_in g4).1 g3 g5 g6
theorem rsame_ok (a b : List Pc) (va vb : DV) (hva : SlV 11 (a.map pcRow) va) (hvb : SlV 11 (b.map pcRow) vb) (hl : a.length ≤ 1000000) (ha : ∀ p ∈ a, SmD p) (hb : ∀ p ∈ b, SmD p) : Pur F0 19 [.d va, .d vb] [] .no (.ret (B (pb (SmG R2 a b)))) .no := by
 have hS : Pur F0 44 [.d va, .d vb, I ((40 : Nat) : Int)] [] .no (.ret (B (pb (SmG R2 a b)))) .no := by
  refine rsame_gen 40 (by decide) (by decide) a b va vb hva hvb R2 hl (fun p hp => ⟨(ha p hp).1, (ha p hp).2.1⟩) (fun p hp => (hb p hp).1) (fun k1 v1 n1 t1 c1 i1 l1 k2 v2 n2 t2 c2 i2 l2 h1 h2 => ?_)
  obtain ⟨g1, _, g3, g5⟩ := ha _ h1
  obtain ⟨g4, _, _, g6⟩ := hb _ h2
  exact rsame1_ok 39 (by decide) (by decide) l1 l2 i1 i2 (slv_in g1).1 (slv_in g4).1 g3 g5 g6
 refine pur_code code19_ok ?_
 conv => whnf
 repeat' ((first | refine bt ?_ | refine bf ?_ | refine vpur_i hS ?_ | refine vl ?_ | fail) <;> conv => whnf)
 exact ⟨rfl, rfl⟩
theorem smG_refl {R : Pc → Pc → Prop} (h : ∀ p, R p p) (a : List Pc) : SmG R a a := ⟨rfl, fun i p q h1 h2 => by rw [h1] at h2; cases h2; exact ⟨⟨rfl, rfl, rfl, rfl⟩, h p⟩⟩
theorem r2_refl (p : Pc) : R2 p p := smG_refl (fun p => smG_refl (fun _ => trivial) _) _
end Go.Proofs.YtlhajccbfapieaaGreatDoor.Ab
namespace Go.Proofs.YtlhajccbfapieaaGreatDoor.Ab
open Go
set_option linter.unusedSimpArgs false
set_option maxRecDepth 100000
set_option linter.unusedVariables false
set_option maxHeartbeats 4000000
def LiN (l : List (List UInt8)) : Prop := l.length ≤ 30 ∧ ∀ s ∈ l, s.length ≤ 100
def LiQ (q : Pc) : Prop := LiN q.names ∧ q.inner = []
def LiP (p : Pc) : Prop := LiN p.names ∧ p.inner.length ≤ 400 ∧ ∀ q ∈ p.inner, LiQ q
def LightP (l : List Pc) : Prop := l.length ≤ 400 ∧ ∀ p ∈ l, LiP p
theorem lt_idx {α : Type} {l : List α} {P : α → Prop} (h : ∀ (i : Nat) (p : α), i < l.length → l[i]? = some p → P p) : ∀ p ∈ l, P p := fun p hp => by
 obtain ⟨i, hi⟩ := List.getElem?_of_mem hp
 exact h i p (List.getElem?_eq_some_iff.1 hi).1 hi
theorem light_le {y : Int} (h : ilt (Int.ofNat 400) y = false) : y ≤ 400 := by rw [ilt_f] at h; exact h
theorem light_num {k : Nat} {x a : Int} (h1 : (k : Int) ≤ x) (h2 : x ≤ 400) (h3 : 0 ≤ a) (h4 : ilt (Int.ofNat 400) (iadd IntKind.i64 x (iadd IntKind.i64 (Int.ofNat 1) (imin a (Int.ofNat 1000)))) = false) :
 ((k + 1 : Nat) : Int) ≤ iadd IntKind.i64 x (iadd IntKind.i64 (Int.ofNat 1) (imin a (Int.ofNat 1000))) ∧ a ≤ 400 := by
 have h5 := light_le h4
 have e1000 : Int.ofNat 1000 = 1000 := rfl
 have hm : 0 ≤ imin a (Int.ofNat 1000) ∧ imin a (Int.ofNat 1000) ≤ 1000 ∧ (imin a (Int.ofNat 1000) ≤ 400 → a ≤ 400) := by
  rw [imin_d, e1000]; split <;> omega
 have e1 : iadd IntKind.i64 (Int.ofNat 1) (imin a (Int.ofNat 1000)) = 1 + imin a (Int.ofNat 1000) := by rw [iadd64 (by rw [lit1]; omega) (by rw [lit1]; omega), lit1]
 have e2 : iadd IntKind.i64 x (1 + imin a (Int.ofNat 1000)) = x + (1 + imin a (Int.ofNat 1000)) := iadd64 (by omega) (by omega)
 rw [e1, e2] at h5 ⊢
 exact ⟨by omega, hm.2.2 (by omega)⟩
theorem light6_sl (l : List Pc) (hall : ∀ p ∈ l, PcOk p) : ∃ b : Bool, Pur F0 6 [.d (.sl 11 (l.map pcRow))] [] .no (.ret (B b)) .no ∧ (b = true → LightP l) := by
 refine pur_ret (g := B) code6_ok ?_
 conv => whnf
 repeat' ((first | refine bt ?_ | refine bf ?_ | refine vl ?_ | fail) <;> conv => whnf)
 refine vloop_cnt (α := Int) l.length (fun k x => (k : Int) ≤ x ∧ x ≤ 400 ∧ ∀ (i : Nat) (p : Pc), i < k → l[i]? = some p → LiP p) (fun k x => [(3, I x), (14, I (k : Int))]) 0 ⟨by omega, by omega, fun i p h => by omega⟩ rfl ?_
 intro k x hk hI
 obtain ⟨hkx, hx4, hI⟩ := hI
 conv => whnf
 by_cases hlt : k < l.length
 · obtain ⟨p, hp⟩ := get_in hlt
   have hg := iget_map (f := pcRow) hp
   have hl := lt_len (f := pcRow) hlt
   have hpo := hall p (List.mem_of_getElem? hp)
   have hnext : LiP p → ∀ (i : Nat) (p : Pc), i < k + 1 → l[i]? = some p → LiP p := fun h => upto_succ (P := fun _ p => LiP p) hI hp h
   clear hp hall hI
   cases hpo with
   | @mk kd vn names t c vi inner hn hi h0 =>
   rcases hi with ⟨rfl, hi⟩ | rfl
   · obtain rfl : inner = [] := List.map_eq_nil_iff.1 hi
     have hin : ∀ q ∈ ([] : List Pc), LiQ q := fun q hq => by cases hq
     rcases hn with ⟨rfl, hn⟩ | rfl
     · obtain rfl : names = [] := List.map_eq_nil_iff.1 hn
       repeat' ((first | refine bt ?_ | refine bf ?_ | refine vo_i hg ?_ | refine vl ?_ | refine vb_i (fun h => ?_) (fun h => ?_) | fail) <;> conv => whnf)
       any_goals (first | (refine ⟨false, rfl, rfl, ?_⟩; intro hff; cases hff; done) | skip)
       have hn4 := ‹ilt (Int.ofNat 400) (iadd IntKind.i64 x (iadd IntKind.i64 (Int.ofNat 1) (imin (0 : Int) (Int.ofNat 1000)))) = false›
       have hn30 := ‹ilt (Int.ofNat 30) (0 : Int) = false›
       have hlen := light_num hkx hx4 (show (0 : Int) ≤ (0 : Int) by omega) hn4
       have hn30' : ([] : List (List UInt8)).length ≤ 30 := by
        rw [ilt_f] at hn30
        have : (30 : Int) = Int.ofNat 30 := rfl
        first
         | (rw [List.length_map] at hn30; omega)
         | (simp; done)
       have hi400 : ([] : List Pc).length ≤ 400 := by
        have := hlen.2
        first
         | (rw [List.length_map] at this; omega)
         | (simp; done)
       refine vloop_cnt (α := Unit) 0 (fun _ _ => True) (fun j _ => [(36, I (j : Int))]) () trivial rfl ?_
       intro j _ hj _
       obtain rfl : j = 0 := by omega
       conv => whnf
       have hz0 : ilt ((0 : Nat) : Int) (0 : Int) = false := by rw [ilt_f]; omega
       have hN : ∀ s ∈ ([] : List (List UInt8)), s.length ≤ 100 := fun s hs => by cases hs
       repeat' ((first | refine bt ?_ | refine bf ?_ | refine vb_f (by (first | omega | (simp only [ilt_t, ilt_f, ile_t, ile_f, ieq_t, ieq_f, ofn, List.length_map, Bool.not_eq_true', Bool.not_eq_false'] at *; omega))) ?_ | refine vl ?_ | fail) <;> conv => whnf)
       refine vloop_cnt (α := Unit) 0 (fun _ _ => True) (fun j _ => [(47, I (j : Int))]) () trivial rfl ?_
       intro j _ hj _
       obtain rfl : j = 0 := by omega
       conv => whnf
       have hz0 : ilt ((0 : Nat) : Int) (0 : Int) = false := by rw [ilt_f]; omega
       have hNx : ∀ s ∈ ([] : List (List UInt8)), s.length ≤ 100 := fun s hs => by cases hs
       repeat' ((first | refine bt ?_ | refine bf ?_ | refine vb_f (by (first | omega | (simp only [ilt_t, ilt_f, ile_t, ile_f, ieq_t, ieq_f, ofn, List.length_map, Bool.not_eq_true', Bool.not_eq_false'] at *; omega))) ?_ | refine vl ?_ | fail) <;> conv => whnf)
       exact ⟨⟨(k + 1, iadd IntKind.i64 x (iadd IntKind.i64 (Int.ofNat 1) (imin (0 : Int) (Int.ofNat 1000)))), (by omega), hlen.1, light_le hn4, hnext ⟨⟨hn30', hN⟩, hi400, hin⟩⟩, (by simp only; omega), (by repeat' (first | exact rfl | exact slot_eq (I_eq (iadd_one (by omega))) | (refine cons_eq ?_ ?_) | assumption)), rfl, rfl, rfl⟩
     · repeat' ((first | refine bt ?_ | refine bf ?_ | refine vo_i hg ?_ | refine vl ?_ | refine vb_i (fun h => ?_) (fun h => ?_) | fail) <;> conv => whnf)
       any_goals (first | (refine ⟨false, rfl, rfl, ?_⟩; intro hff; cases hff; done) | skip)
       have hn4 := ‹ilt (Int.ofNat 400) (iadd IntKind.i64 x (iadd IntKind.i64 (Int.ofNat 1) (imin (0 : Int) (Int.ofNat 1000)))) = false›
       have hn30 := ‹ilt (Int.ofNat 30) ((names.map wsRow).length : Int) = false›
       have hlen := light_num hkx hx4 (show (0 : Int) ≤ (0 : Int) by omega) hn4
       have hn30' : (names : List (List UInt8)).length ≤ 30 := by
        rw [ilt_f] at hn30
        have : (30 : Int) = Int.ofNat 30 := rfl
        first
         | (rw [List.length_map] at hn30; omega)
         | (simp; done)
       have hi400 : ([] : List Pc).length ≤ 400 := by
        have := hlen.2
        first
         | (rw [List.length_map] at this; omega)
         | (simp; done)
       refine vloop_cnt (α := Unit) names.length (fun j _ => ∀ (i : Nat) (s : List UInt8), i < j → names[i]? = some s → s.length ≤ 100) (fun j _ => [(36, I (j : Int))]) () (fun i s h => by omega) rfl ?_
       intro j _ hj hJ
       conv => whnf
       rcases Nat.lt_or_ge j names.length with hlj | hlj
       · obtain ⟨s, hs⟩ := get_in hlj
         have hgs := iget_map (f := wsRow) hs
         have hls := lt_len (f := wsRow) hlj
         by_cases h100 : 100 < s.length
         · have hb : ilt (Int.ofNat 100) (s.length : Int) = true := by rw [ilt_t]; show ((100 : Int) < _); omega
           repeat' ((first | refine bt ?_ | refine bf ?_ | refine vo_i hgs ?_ | refine vl ?_ | fail) <;> conv => whnf)
           exact ⟨false, rfl, rfl, fun h => by cases h⟩
         · have hb : ilt (Int.ofNat 100) (s.length : Int) = false := by rw [ilt_f]; show (_ : Int) ≤ 100; omega
           repeat' ((first | refine bt ?_ | refine bf ?_ | refine vo_i hgs ?_ | refine vl ?_ | fail) <;> conv => whnf)
           exact ⟨⟨(j + 1, ()), (by omega), upto_succ (P := fun _ s => s.length ≤ 100) hJ hs (by omega)⟩, (by simp only; omega), (by repeat' (first | exact rfl | exact slot_eq (I_eq (iadd_one (by omega))) | (refine cons_eq ?_ ?_) | assumption)), rfl, rfl, rfl⟩
       have hls := nlt_len (f := wsRow) (Nat.not_lt.2 hlj)
       have hN : ∀ s ∈ names, s.length ≤ 100 := lt_idx fun i s h h1 => hJ i s (by omega) h1
       clear hJ
       repeat' ((first | refine bt ?_ | refine bf ?_ | refine vb_f (by (first | omega | (simp only [ilt_t, ilt_f, ile_t, ile_f, ieq_t, ieq_f, ofn, List.length_map, Bool.not_eq_true', Bool.not_eq_false'] at *; omega))) ?_ | refine vl ?_ | fail) <;> conv => whnf)
       refine vloop_cnt (α := Unit) 0 (fun _ _ => True) (fun j _ => [(47, I (j : Int))]) () trivial rfl ?_
       intro j _ hj _
       obtain rfl : j = 0 := by omega
       conv => whnf
       have hz0 : ilt ((0 : Nat) : Int) (0 : Int) = false := by rw [ilt_f]; omega
       have hNx : ∀ s ∈ ([] : List (List UInt8)), s.length ≤ 100 := fun s hs => by cases hs
       repeat' ((first | refine bt ?_ | refine bf ?_ | refine vb_f (by (first | omega | (simp only [ilt_t, ilt_f, ile_t, ile_f, ieq_t, ieq_f, ofn, List.length_map, Bool.not_eq_true', Bool.not_eq_false'] at *; omega))) ?_ | refine vl ?_ | fail) <;> conv => whnf)
       exact ⟨⟨(k + 1, iadd IntKind.i64 x (iadd IntKind.i64 (Int.ofNat 1) (imin (0 : Int) (Int.ofNat 1000)))), (by omega), hlen.1, light_le hn4, hnext ⟨⟨hn30', hN⟩, hi400, hin⟩⟩, (by simp only; omega), (by repeat' (first | exact rfl | exact slot_eq (I_eq (iadd_one (by omega))) | (refine cons_eq ?_ ?_) | assumption)), rfl, rfl, rfl⟩
   · rcases hn with ⟨rfl, hn⟩ | rfl
     · obtain rfl : names = [] := List.map_eq_nil_iff.1 hn
       repeat' ((first | refine bt ?_ | refine bf ?_ | refine vo_i hg ?_ | refine vl ?_ | refine vb_i (fun h => ?_) (fun h => ?_) | fail) <;> conv => whnf)
       any_goals (first | (refine ⟨false, rfl, rfl, ?_⟩; intro hff; cases hff; done) | skip)
       have hn4 := ‹ilt (Int.ofNat 400) (iadd IntKind.i64 x (iadd IntKind.i64 (Int.ofNat 1) (imin ((inner.map pcRow).length : Int) (Int.ofNat 1000)))) = false›
       have hn30 := ‹ilt (Int.ofNat 30) (0 : Int) = false›
       have hlen := light_num hkx hx4 (show (0 : Int) ≤ ((inner.map pcRow).length : Int) by omega) hn4
       have hn30' : ([] : List (List UInt8)).length ≤ 30 := by
        rw [ilt_f] at hn30
        have : (30 : Int) = Int.ofNat 30 := rfl
        first
         | (rw [List.length_map] at hn30; omega)
         | (simp; done)
       have hi400 : (inner : List Pc).length ≤ 400 := by
        have := hlen.2
        first
         | (rw [List.length_map] at this; omega)
         | (simp; done)
       refine vloop_cnt (α := Unit) 0 (fun _ _ => True) (fun j _ => [(36, I (j : Int))]) () trivial rfl ?_
       intro j _ hj _
       obtain rfl : j = 0 := by omega
       conv => whnf
       have hz0 : ilt ((0 : Nat) : Int) (0 : Int) = false := by rw [ilt_f]; omega
       have hN : ∀ s ∈ ([] : List (List UInt8)), s.length ≤ 100 := fun s hs => by cases hs
       repeat' ((first | refine bt ?_ | refine bf ?_ | refine vb_f (by (first | omega | (simp only [ilt_t, ilt_f, ile_t, ile_f, ieq_t, ieq_f, ofn, List.length_map, Bool.not_eq_true', Bool.not_eq_false'] at *; omega))) ?_ | refine vl ?_ | fail) <;> conv => whnf)
       clear hg
       have hN0 := hN
       clear hN
       refine vloop_cnt (α := Unit) inner.length (fun m _ => ∀ (i : Nat) (q : Pc), i < m → inner[i]? = some q → LiQ q) (fun m _ => [(47, I (m : Int))]) () (fun i s h => by omega) rfl ?_
       intro m _ hm hM
       conv => whnf
       rcases Nat.lt_or_ge m inner.length with hlm | hlm
       · obtain ⟨q, hq⟩ := get_in hlm
         have hgq := iget_map (f := pcRow) hq
         have hlq := lt_len (f := pcRow) hlm
         have hqo := h0 q (List.mem_of_getElem? hq)
         have hqn : LiQ q → ∀ (i : Nat) (q : Pc), i < m + 1 → inner[i]? = some q → LiQ q := fun h => upto_succ (P := fun _ q => LiQ q) hM hq h
         clear hM hq
         cases hqo with
         | @mk kd2 vn2 names2 t2 c2 vi2 inner2 hn2 hi2 h02 =>
         rcases hi2 with ⟨rfl, hi2⟩ | rfl
         · obtain rfl : inner2 = [] := List.map_eq_nil_iff.1 hi2
           have hi0 : ([] : List Pc) = [] := rfl
           have hi00 : ilt (Int.ofNat 0) (0 : Int) = false := by rw [ilt_f, lit0]; omega
           rcases hn2 with ⟨rfl, hn2⟩ | rfl
           · obtain rfl : names2 = [] := List.map_eq_nil_iff.1 hn2
             repeat' ((first | refine bt ?_ | refine bf ?_ | refine vo_i hgq ?_ | refine vl ?_ | refine vb_i (fun h => ?_) (fun h => ?_) | fail) <;> conv => whnf)
             any_goals (first | (refine ⟨false, rfl, rfl, ?_⟩; intro hff; cases hff; done) | skip)
             have hq30 := ‹ilt (Int.ofNat 30) (0 : Int) = false›
             have hq30' : ([] : List (List UInt8)).length ≤ 30 := by
              rw [ilt_f] at hq30
              have : (30 : Int) = Int.ofNat 30 := rfl
              first
               | (rw [List.length_map] at hq30; omega)
               | (simp; done)
             refine vloop_cnt (α := Unit) 0 (fun _ _ => True) (fun j _ => [(64, I (j : Int))]) () trivial rfl ?_
             intro j _ hj _
             obtain rfl : j = 0 := by omega
             conv => whnf
             have hz0 : ilt ((0 : Nat) : Int) (0 : Int) = false := by rw [ilt_f]; omega
             have hN : ∀ s ∈ ([] : List (List UInt8)), s.length ≤ 100 := fun s hs => by cases hs
             repeat' ((first | refine bt ?_ | refine bf ?_ | refine vb_f (by (first | omega | (simp only [ilt_t, ilt_f, ile_t, ile_f, ieq_t, ieq_f, ofn, List.length_map, Bool.not_eq_true', Bool.not_eq_false'] at *; omega))) ?_ | refine vl ?_ | fail) <;> conv => whnf)
             exact ⟨⟨(m + 1, ()), (by omega), hqn ⟨⟨hq30', hN⟩, hi0⟩⟩, (by simp only; omega), (by repeat' (first | exact rfl | exact slot_eq (I_eq (iadd_one (by omega))) | (refine cons_eq ?_ ?_) | assumption)), rfl, rfl, rfl⟩
           · repeat' ((first | refine bt ?_ | refine bf ?_ | refine vo_i hgq ?_ | refine vl ?_ | refine vb_i (fun h => ?_) (fun h => ?_) | fail) <;> conv => whnf)
             any_goals (first | (refine ⟨false, rfl, rfl, ?_⟩; intro hff; cases hff; done) | skip)
             have hq30 := ‹ilt (Int.ofNat 30) ((names2.map wsRow).length : Int) = false›
             have hq30' : (names2 : List (List UInt8)).length ≤ 30 := by
              rw [ilt_f] at hq30
              have : (30 : Int) = Int.ofNat 30 := rfl
              first
               | (rw [List.length_map] at hq30; omega)
               | (simp; done)
             refine vloop_cnt (α := Unit) names2.length (fun j _ => ∀ (i : Nat) (s : List UInt8), i < j → names2[i]? = some s → s.length ≤ 100) (fun j _ => [(64, I (j : Int))]) () (fun i s h => by omega) rfl ?_
             intro j _ hj hJ
             conv => whnf
             rcases Nat.lt_or_ge j names2.length with hlj | hlj
             · obtain ⟨s, hs⟩ := get_in hlj
               have hgs := iget_map (f := wsRow) hs
               have hls := lt_len (f := wsRow) hlj
               by_cases h100 : 100 < s.length
               · have hb : ilt (Int.ofNat 100) (s.length : Int) = true := by rw [ilt_t]; show ((100 : Int) < _); omega
                 repeat' ((first | refine bt ?_ | refine bf ?_ | refine vo_i hgs ?_ | refine vl ?_ | fail) <;> conv => whnf)
                 exact ⟨false, rfl, rfl, fun h => by cases h⟩
               · have hb : ilt (Int.ofNat 100) (s.length : Int) = false := by rw [ilt_f]; show (_ : Int) ≤ 100; omega
                 repeat' ((first | refine bt ?_ | refine bf ?_ | refine vo_i hgs ?_ | refine vl ?_ | fail) <;> conv => whnf)
                 exact ⟨⟨(j + 1, ()), (by omega), upto_succ (P := fun _ s => s.length ≤ 100) hJ hs (by omega)⟩, (by simp only; omega), (by repeat' (first | exact rfl | exact slot_eq (I_eq (iadd_one (by omega))) | (refine cons_eq ?_ ?_) | assumption)), rfl, rfl, rfl⟩
             have hls := nlt_len (f := wsRow) (Nat.not_lt.2 hlj)
             have hN : ∀ s ∈ names2, s.length ≤ 100 := lt_idx fun i s h h1 => hJ i s (by omega) h1
             clear hJ
             repeat' ((first | refine bt ?_ | refine bf ?_ | refine vb_f (by (first | omega | (simp only [ilt_t, ilt_f, ile_t, ile_f, ieq_t, ieq_f, ofn, List.length_map, Bool.not_eq_true', Bool.not_eq_false'] at *; omega))) ?_ | refine vl ?_ | fail) <;> conv => whnf)
             exact ⟨⟨(m + 1, ()), (by omega), hqn ⟨⟨hq30', hN⟩, hi0⟩⟩, (by simp only; omega), (by repeat' (first | exact rfl | exact slot_eq (I_eq (iadd_one (by omega))) | (refine cons_eq ?_ ?_) | assumption)), rfl, rfl, rfl⟩
         · by_cases hi0 : inner2 = []
           · have hi00 : ilt (Int.ofNat 0) ((inner2.map pcRow).length : Int) = false := by rw [ilt_f, lit0, hi0]; simp
             rcases hn2 with ⟨rfl, hn2⟩ | rfl
             · obtain rfl : names2 = [] := List.map_eq_nil_iff.1 hn2
               repeat' ((first | refine bt ?_ | refine bf ?_ | refine vo_i hgq ?_ | refine vl ?_ | refine vb_i (fun h => ?_) (fun h => ?_) | fail) <;> conv => whnf)
               any_goals (first | (refine ⟨false, rfl, rfl, ?_⟩; intro hff; cases hff; done) | skip)
               have hq30 := ‹ilt (Int.ofNat 30) (0 : Int) = false›
               have hq30' : ([] : List (List UInt8)).length ≤ 30 := by
                rw [ilt_f] at hq30
                have : (30 : Int) = Int.ofNat 30 := rfl
                first
                 | (rw [List.length_map] at hq30; omega)
                 | (simp; done)
               refine vloop_cnt (α := Unit) 0 (fun _ _ => True) (fun j _ => [(64, I (j : Int))]) () trivial rfl ?_
               intro j _ hj _
               obtain rfl : j = 0 := by omega
               conv => whnf
               have hz0 : ilt ((0 : Nat) : Int) (0 : Int) = false := by rw [ilt_f]; omega
               have hN : ∀ s ∈ ([] : List (List UInt8)), s.length ≤ 100 := fun s hs => by cases hs
               repeat' ((first | refine bt ?_ | refine bf ?_ | refine vb_f (by (first | omega | (simp only [ilt_t, ilt_f, ile_t, ile_f, ieq_t, ieq_f, ofn, List.length_map, Bool.not_eq_true', Bool.not_eq_false'] at *; omega))) ?_ | refine vl ?_ | fail) <;> conv => whnf)
               exact ⟨⟨(m + 1, ()), (by omega), hqn ⟨⟨hq30', hN⟩, hi0⟩⟩, (by simp only; omega), (by repeat' (first | exact rfl | exact slot_eq (I_eq (iadd_one (by omega))) | (refine cons_eq ?_ ?_) | assumption)), rfl, rfl, rfl⟩
             · repeat' ((first | refine bt ?_ | refine bf ?_ | refine vo_i hgq ?_ | refine vl ?_ | refine vb_i (fun h => ?_) (fun h => ?_) | fail) <;> conv => whnf)
               any_goals (first | (refine ⟨false, rfl, rfl, ?_⟩; intro hff; cases hff; done) | skip)
               have hq30 := ‹ilt (Int.ofNat 30) ((names2.map wsRow).length : Int) = false›
               have hq30' : (names2 : List (List UInt8)).length ≤ 30 := by
                rw [ilt_f] at hq30
                have : (30 : Int) = Int.ofNat 30 := rfl
                first
                 | (rw [List.length_map] at hq30; omega)
                 | (simp; done)
               refine vloop_cnt (α := Unit) names2.length (fun j _ => ∀ (i : Nat) (s : List UInt8), i < j → names2[i]? = some s → s.length ≤ 100) (fun j _ => [(64, I (j : Int))]) () (fun i s h => by omega) rfl ?_
               intro j _ hj hJ
               conv => whnf
               rcases Nat.lt_or_ge j names2.length with hlj | hlj
               · obtain ⟨s, hs⟩ := get_in hlj
                 have hgs := iget_map (f := wsRow) hs
                 have hls := lt_len (f := wsRow) hlj
                 by_cases h100 : 100 < s.length
                 · have hb : ilt (Int.ofNat 100) (s.length : Int) = true := by rw [ilt_t]; show ((100 : Int) < _); omega
                   repeat' ((first | refine bt ?_ | refine bf ?_ | refine vo_i hgs ?_ | refine vl ?_ | fail) <;> conv => whnf)
                   exact ⟨false, rfl, rfl, fun h => by cases h⟩
                 · have hb : ilt (Int.ofNat 100) (s.length : Int) = false := by rw [ilt_f]; show (_ : Int) ≤ 100; omega
                   repeat' ((first | refine bt ?_ | refine bf ?_ | refine vo_i hgs ?_ | refine vl ?_ | fail) <;> conv => whnf)
                   exact ⟨⟨(j + 1, ()), (by omega), upto_succ (P := fun _ s => s.length ≤ 100) hJ hs (by omega)⟩, (by simp only; omega), (by repeat' (first | exact rfl | exact slot_eq (I_eq (iadd_one (by omega))) | (refine cons_eq ?_ ?_) | assumption)), rfl, rfl, rfl⟩
               have hls := nlt_len (f := wsRow) (Nat.not_lt.2 hlj)
               have hN : ∀ s ∈ names2, s.length ≤ 100 := lt_idx fun i s h h1 => hJ i s (by omega) h1
               clear hJ
               repeat' ((first | refine bt ?_ | refine bf ?_ | refine vb_f (by (first | omega | (simp only [ilt_t, ilt_f, ile_t, ile_f, ieq_t, ieq_f, ofn, List.length_map, Bool.not_eq_true', Bool.not_eq_false'] at *; omega))) ?_ | refine vl ?_ | fail) <;> conv => whnf)
               exact ⟨⟨(m + 1, ()), (by omega), hqn ⟨⟨hq30', hN⟩, hi0⟩⟩, (by simp only; omega), (by repeat' (first | exact rfl | exact slot_eq (I_eq (iadd_one (by omega))) | (refine cons_eq ?_ ?_) | assumption)), rfl, rfl, rfl⟩
           · have hi00 : ilt (Int.ofNat 0) ((inner2.map pcRow).length : Int) = true := by
              have := List.length_pos_iff.2 hi0
              rw [ilt_t, lit0, List.length_map]; omega
             rcases hn2 with ⟨rfl, hn2⟩ | rfl
             · repeat' ((first | refine bt ?_ | refine bf ?_ | refine vo_i hgq ?_ | refine vl ?_ | refine vb_i (fun h => ?_) (fun h => ?_) | fail) <;> conv => whnf)
               all_goals exact ⟨false, rfl, rfl, fun h => by cases h⟩
             · repeat' ((first | refine bt ?_ | refine bf ?_ | refine vo_i hgq ?_ | refine vl ?_ | refine vb_i (fun h => ?_) (fun h => ?_) | fail) <;> conv => whnf)
               all_goals exact ⟨false, rfl, rfl, fun h => by cases h⟩
       have hlq := nlt_len (f := pcRow) (Nat.not_lt.2 hlm)
       have hin : ∀ q ∈ inner, LiQ q := lt_idx fun i q h h1 => hM i q (by omega) h1
       have hN := hN0
       repeat' ((first | refine bt ?_ | refine bf ?_ | refine vb_f (by (first | omega | (simp only [ilt_t, ilt_f, ile_t, ile_f, ieq_t, ieq_f, ofn, List.length_map, Bool.not_eq_true', Bool.not_eq_false'] at *; omega))) ?_ | refine vl ?_ | fail) <;> conv => whnf)
       exact ⟨⟨(k + 1, iadd IntKind.i64 x (iadd IntKind.i64 (Int.ofNat 1) (imin ((inner.map pcRow).length : Int) (Int.ofNat 1000)))), (by omega), hlen.1, light_le hn4, hnext ⟨⟨hn30', hN⟩, hi400, hin⟩⟩, (by simp only; omega), (by repeat' (first | exact rfl | exact slot_eq (I_eq (iadd_one (by omega))) | (refine cons_eq ?_ ?_) | assumption)), rfl, rfl, rfl⟩
     · repeat' ((first | refine bt ?_ | refine bf ?_ | refine vo_i hg ?_ | refine vl ?_ | refine vb_i (fun h => ?_) (fun h => ?_) | fail) <;> conv => whnf)
       any_goals (first | (refine ⟨false, rfl, rfl, ?_⟩; intro hff; cases hff; done) | skip)
       have hn4 := ‹ilt (Int.ofNat 400) (iadd IntKind.i64 x (iadd IntKind.i64 (Int.ofNat 1) (imin ((inner.map pcRow).length : Int) (Int.ofNat 1000)))) = false›
       have hn30 := ‹ilt (Int.ofNat 30) ((names.map wsRow).length : Int) = false›
       have hlen := light_num hkx hx4 (show (0 : Int) ≤ ((inner.map pcRow).length : Int) by omega) hn4
       have hn30' : (names : List (List UInt8)).length ≤ 30 := by
        rw [ilt_f] at hn30
        have : (30 : Int) = Int.ofNat 30 := rfl
        first
         | (rw [List.length_map] at hn30; omega)
         | (simp; done)
       have hi400 : (inner : List Pc).length ≤ 400 := by
        have := hlen.2
        first
         | (rw [List.length_map] at this; omega)
         | (simp; done)
       refine vloop_cnt (α := Unit) names.length (fun j _ => ∀ (i : Nat) (s : List UInt8), i < j → names[i]? = some s → s.length ≤ 100) (fun j _ => [(36, I (j : Int))]) () (fun i s h => by omega) rfl ?_
       intro j _ hj hJ
       conv => whnf
       rcases Nat.lt_or_ge j names.length with hlj | hlj
       · obtain ⟨s, hs⟩ := get_in hlj
         have hgs := iget_map (f := wsRow) hs
         have hls := lt_len (f := wsRow) hlj
         by_cases h100 : 100 < s.length
         · have hb : ilt (Int.ofNat 100) (s.length : Int) = true := by rw [ilt_t]; show ((100 : Int) < _); omega
           repeat' ((first | refine bt ?_ | refine bf ?_ | refine vo_i hgs ?_ | refine vl ?_ | fail) <;> conv => whnf)
           exact ⟨false, rfl, rfl, fun h => by cases h⟩
         · have hb : ilt (Int.ofNat 100) (s.length : Int) = false := by rw [ilt_f]; show (_ : Int) ≤ 100; omega
           repeat' ((first | refine bt ?_ | refine bf ?_ | refine vo_i hgs ?_ | refine vl ?_ | fail) <;> conv => whnf)
           exact ⟨⟨(j + 1, ()), (by omega), upto_succ (P := fun _ s => s.length ≤ 100) hJ hs (by omega)⟩, (by simp only; omega), (by repeat' (first | exact rfl | exact slot_eq (I_eq (iadd_one (by omega))) | (refine cons_eq ?_ ?_) | assumption)), rfl, rfl, rfl⟩
       have hls := nlt_len (f := wsRow) (Nat.not_lt.2 hlj)
       have hN : ∀ s ∈ names, s.length ≤ 100 := lt_idx fun i s h h1 => hJ i s (by omega) h1
       clear hJ
       repeat' ((first | refine bt ?_ | refine bf ?_ | refine vb_f (by (first | omega | (simp only [ilt_t, ilt_f, ile_t, ile_f, ieq_t, ieq_f, ofn, List.length_map, Bool.not_eq_true', Bool.not_eq_false'] at *; omega))) ?_ | refine vl ?_ | fail) <;> conv => whnf)
       clear hg
       have hN0 := hN
       clear hN
       refine vloop_cnt (α := Unit) inner.length (fun m _ => ∀ (i : Nat) (q : Pc), i < m → inner[i]? = some q → LiQ q) (fun m _ => [(47, I (m : Int))]) () (fun i s h => by omega) rfl ?_
       intro m _ hm hM
       conv => whnf
       rcases Nat.lt_or_ge m inner.length with hlm | hlm
       · obtain ⟨q, hq⟩ := get_in hlm
         have hgq := iget_map (f := pcRow) hq
         have hlq := lt_len (f := pcRow) hlm
         have hqo := h0 q (List.mem_of_getElem? hq)
         have hqn : LiQ q → ∀ (i : Nat) (q : Pc), i < m + 1 → inner[i]? = some q → LiQ q := fun h => upto_succ (P := fun _ q => LiQ q) hM hq h
         clear hM hq
         cases hqo with
         | @mk kd2 vn2 names2 t2 c2 vi2 inner2 hn2 hi2 h02 =>
         rcases hi2 with ⟨rfl, hi2⟩ | rfl
         · obtain rfl : inner2 = [] := List.map_eq_nil_iff.1 hi2
           have hi0 : ([] : List Pc) = [] := rfl
           have hi00 : ilt (Int.ofNat 0) (0 : Int) = false := by rw [ilt_f, lit0]; omega
           rcases hn2 with ⟨rfl, hn2⟩ | rfl
           · obtain rfl : names2 = [] := List.map_eq_nil_iff.1 hn2
             repeat' ((first | refine bt ?_ | refine bf ?_ | refine vo_i hgq ?_ | refine vl ?_ | refine vb_i (fun h => ?_) (fun h => ?_) | fail) <;> conv => whnf)
             any_goals (first | (refine ⟨false, rfl, rfl, ?_⟩; intro hff; cases hff; done) | skip)
             have hq30 := ‹ilt (Int.ofNat 30) (0 : Int) = false›
             have hq30' : ([] : List (List UInt8)).length ≤ 30 := by
              rw [ilt_f] at hq30
              have : (30 : Int) = Int.ofNat 30 := rfl
              first
               | (rw [List.length_map] at hq30; omega)
               | (simp; done)
             refine vloop_cnt (α := Unit) 0 (fun _ _ => True) (fun j _ => [(64, I (j : Int))]) () trivial rfl ?_
             intro j _ hj _
             obtain rfl : j = 0 := by omega
             conv => whnf
             have hz0 : ilt ((0 : Nat) : Int) (0 : Int) = false := by rw [ilt_f]; omega
             have hN : ∀ s ∈ ([] : List (List UInt8)), s.length ≤ 100 := fun s hs => by cases hs
             repeat' ((first | refine bt ?_ | refine bf ?_ | refine vb_f (by (first | omega | (simp only [ilt_t, ilt_f, ile_t, ile_f, ieq_t, ieq_f, ofn, List.length_map, Bool.not_eq_true', Bool.not_eq_false'] at *; omega))) ?_ | refine vl ?_ | fail) <;> conv => whnf)
             exact ⟨⟨(m + 1, ()), (by omega), hqn ⟨⟨hq30', hN⟩, hi0⟩⟩, (by simp only; omega), (by repeat' (first | exact rfl | exact slot_eq (I_eq (iadd_one (by omega))) | (refine cons_eq ?_ ?_) | assumption)), rfl, rfl, rfl⟩
           · repeat' ((first | refine bt ?_ | refine bf ?_ | refine vo_i hgq ?_ | refine vl ?_ | refine vb_i (fun h => ?_) (fun h => ?_) | fail) <;> conv => whnf)
             any_goals (first | (refine ⟨false, rfl, rfl, ?_⟩; intro hff; cases hff; done) | skip)
             have hq30 := ‹ilt (Int.ofNat 30) ((names2.map wsRow).length : Int) = false›
             have hq30' : (names2 : List (List UInt8)).length ≤ 30 := by
              rw [ilt_f] at hq30
              have : (30 : Int) = Int.ofNat 30 := rfl
              first
               | (rw [List.length_map] at hq30; omega)
               | (simp; done)
             refine vloop_cnt (α := Unit) names2.length (fun j _ => ∀ (i : Nat) (s : List UInt8), i < j → names2[i]? = some s → s.length ≤ 100) (fun j _ => [(64, I (j : Int))]) () (fun i s h => by omega) rfl ?_
             intro j _ hj hJ
             conv => whnf
             rcases Nat.lt_or_ge j names2.length with hlj | hlj
             · obtain ⟨s, hs⟩ := get_in hlj
               have hgs := iget_map (f := wsRow) hs
               have hls := lt_len (f := wsRow) hlj
               by_cases h100 : 100 < s.length
               · have hb : ilt (Int.ofNat 100) (s.length : Int) = true := by rw [ilt_t]; show ((100 : Int) < _); omega
                 repeat' ((first | refine bt ?_ | refine bf ?_ | refine vo_i hgs ?_ | refine vl ?_ | fail) <;> conv => whnf)
                 exact ⟨false, rfl, rfl, fun h => by cases h⟩
               · have hb : ilt (Int.ofNat 100) (s.length : Int) = false := by rw [ilt_f]; show (_ : Int) ≤ 100; omega
                 repeat' ((first | refine bt ?_ | refine bf ?_ | refine vo_i hgs ?_ | refine vl ?_ | fail) <;> conv => whnf)
                 exact ⟨⟨(j + 1, ()), (by omega), upto_succ (P := fun _ s => s.length ≤ 100) hJ hs (by omega)⟩, (by simp only; omega), (by repeat' (first | exact rfl | exact slot_eq (I_eq (iadd_one (by omega))) | (refine cons_eq ?_ ?_) | assumption)), rfl, rfl, rfl⟩
             have hls := nlt_len (f := wsRow) (Nat.not_lt.2 hlj)
             have hN : ∀ s ∈ names2, s.length ≤ 100 := lt_idx fun i s h h1 => hJ i s (by omega) h1
             clear hJ
             repeat' ((first | refine bt ?_ | refine bf ?_ | refine vb_f (by (first | omega | (simp only [ilt_t, ilt_f, ile_t, ile_f, ieq_t, ieq_f, ofn, List.length_map, Bool.not_eq_true', Bool.not_eq_false'] at *; omega))) ?_ | refine vl ?_ | fail) <;> conv => whnf)
             exact ⟨⟨(m + 1, ()), (by omega), hqn ⟨⟨hq30', hN⟩, hi0⟩⟩, (by simp only; omega), (by repeat' (first | exact rfl | exact slot_eq (I_eq (iadd_one (by omega))) | (refine cons_eq ?_ ?_) | assumption)), rfl, rfl, rfl⟩
         · by_cases hi0 : inner2 = []
           · have hi00 : ilt (Int.ofNat 0) ((inner2.map pcRow).length : Int) = false := by rw [ilt_f, lit0, hi0]; simp
             rcases hn2 with ⟨rfl, hn2⟩ | rfl
             · obtain rfl : names2 = [] := List.map_eq_nil_iff.1 hn2
               repeat' ((first | refine bt ?_ | refine bf ?_ | refine vo_i hgq ?_ | refine vl ?_ | refine vb_i (fun h => ?_) (fun h => ?_) | fail) <;> conv => whnf)
               any_goals (first | (refine ⟨false, rfl, rfl, ?_⟩; intro hff; cases hff; done) | skip)
               have hq30 := ‹ilt (Int.ofNat 30) (0 : Int) = false›
               have hq30' : ([] : List (List UInt8)).length ≤ 30 := by
                rw [ilt_f] at hq30
                have : (30 : Int) = Int.ofNat 30 := rfl
                first
                 | (rw [List.length_map] at hq30; omega)
                 | (simp; done)
               refine vloop_cnt (α := Unit) 0 (fun _ _ => True) (fun j _ => [(64, I (j : Int))]) () trivial rfl ?_
               intro j _ hj _
               obtain rfl : j = 0 := by omega
               conv => whnf
               have hz0 : ilt ((0 : Nat) : Int) (0 : Int) = false := by rw [ilt_f]; omega
               have hN : ∀ s ∈ ([] : List (List UInt8)), s.length ≤ 100 := fun s hs => by cases hs
               repeat' ((first | refine bt ?_ | refine bf ?_ | refine vb_f (by (first | omega | (simp only [ilt_t, ilt_f, ile_t, ile_f, ieq_t, ieq_f, ofn, List.length_map, Bool.not_eq_true', Bool.not_eq_false'] at *; omega))) ?_ | refine vl ?_ | fail) <;> conv => whnf)
               exact ⟨⟨(m + 1, ()), (by omega), hqn ⟨⟨hq30', hN⟩, hi0⟩⟩, (by simp only; omega), (by repeat' (first | exact rfl | exact slot_eq (I_eq (iadd_one (by omega))) | (refine cons_eq ?_ ?_) | assumption)), rfl, rfl, rfl⟩
             · repeat' ((first | refine bt ?_ | refine bf ?_ | refine vo_i hgq ?_ | refine vl ?_ | refine vb_i (fun h => ?_) (fun h => ?_) | fail) <;> conv => whnf)
               any_goals (first | (refine ⟨false, rfl, rfl, ?_⟩; intro hff; cases hff; done) | skip)
               have hq30 := ‹ilt (Int.ofNat 30) ((names2.map wsRow).length : Int) = false›
               have hq30' : (names2 : List (List UInt8)).length ≤ 30 := by
                rw [ilt_f] at hq30
                have : (30 : Int) = Int.ofNat 30 := rfl
                first
                 | (rw [List.length_map] at hq30; omega)
                 | (simp; done)
               refine vloop_cnt (α := Unit) names2.length (fun j _ => ∀ (i : Nat) (s : List UInt8), i < j → names2[i]? = some s → s.length ≤ 100) (fun j _ => [(64, I (j : Int))]) () (fun i s h => by omega) rfl ?_
               intro j _ hj hJ
               conv => whnf
               rcases Nat.lt_or_ge j names2.length with hlj | hlj
               · obtain ⟨s, hs⟩ := get_in hlj
                 have hgs := iget_map (f := wsRow) hs
                 have hls := lt_len (f := wsRow) hlj
                 by_cases h100 : 100 < s.length
                 · have hb : ilt (Int.ofNat 100) (s.length : Int) = true := by rw [ilt_t]; show ((100 : Int) < _); omega
                   repeat' ((first | refine bt ?_ | refine bf ?_ | refine vo_i hgs ?_ | refine vl ?_ | fail) <;> conv => whnf)
                   exact ⟨false, rfl, rfl, fun h => by cases h⟩
                 · have hb : ilt (Int.ofNat 100) (s.length : Int) = false := by rw [ilt_f]; show (_ : Int) ≤ 100; omega
                   repeat' ((first | refine bt ?_ | refine bf ?_ | refine vo_i hgs ?_ | refine vl ?_ | fail) <;> conv => whnf)
                   exact ⟨⟨(j + 1, ()), (by omega), upto_succ (P := fun _ s => s.length ≤ 100) hJ hs (by omega)⟩, (by simp only; omega), (by repeat' (first | exact rfl | exact slot_eq (I_eq (iadd_one (by omega))) | (refine cons_eq ?_ ?_) | assumption)), rfl, rfl, rfl⟩
               have hls := nlt_len (f := wsRow) (Nat.not_lt.2 hlj)
               have hN : ∀ s ∈ names2, s.length ≤ 100 := lt_idx fun i s h h1 => hJ i s (by omega) h1
               clear hJ
               repeat' ((first | refine bt ?_ | refine bf ?_ | refine vb_f (by (first | omega | (simp only [ilt_t, ilt_f, ile_t, ile_f, ieq_t, ieq_f, ofn, List.length_map, Bool.not_eq_true', Bool.not_eq_false'] at *; omega))) ?_ | refine vl ?_ | fail) <;> conv => whnf)
               exact ⟨⟨(m + 1, ()), (by omega), hqn ⟨⟨hq30', hN⟩, hi0⟩⟩, (by simp only; omega), (by repeat' (first | exact rfl | exact slot_eq (I_eq (iadd_one (by omega))) | (refine cons_eq ?_ ?_) | assumption)), rfl, rfl, rfl⟩
           · have hi00 : ilt (Int.ofNat 0) ((inner2.map pcRow).length : Int) = true := by
              have := List.length_pos_iff.2 hi0
              rw [ilt_t, lit0, List.length_map]; omega
             rcases hn2 with ⟨rfl, hn2⟩ | rfl
             · repeat' ((first | refine bt ?_ | refine bf ?_ | refine vo_i hgq ?_ | refine vl ?_ | refine vb_i (fun h => ?_) (fun h => ?_) | fail) <;> conv => whnf)
               all_goals exact ⟨false, rfl, rfl, fun h => by cases h⟩
             · repeat' ((first | refine bt ?_ | refine bf ?_ | refine vo_i hgq ?_ | refine vl ?_ | refine vb_i (fun h => ?_) (fun h => ?_) | fail) <;> conv => whnf)
               all_goals exact ⟨false, rfl, rfl, fun h => by cases h⟩
       have hlq := nlt_len (f := pcRow) (Nat.not_lt.2 hlm)
       have hin : ∀ q ∈ inner, LiQ q := lt_idx fun i q h h1 => hM i q (by omega) h1
       have hN := hN0
       repeat' ((first | refine bt ?_ | refine bf ?_ | refine vb_f (by (first | omega | (simp only [ilt_t, ilt_f, ile_t, ile_f, ieq_t, ieq_f, ofn, List.length_map, Bool.not_eq_true', Bool.not_eq_false'] at *; omega))) ?_ | refine vl ?_ | fail) <;> conv => whnf)
       exact ⟨⟨(k + 1, iadd IntKind.i64 x (iadd IntKind.i64 (Int.ofNat 1) (imin ((inner.map pcRow).length : Int) (Int.ofNat 1000)))), (by omega), hlen.1, light_le hn4, hnext ⟨⟨hn30', hN⟩, hi400, hin⟩⟩, (by simp only; omega), (by repeat' (first | exact rfl | exact slot_eq (I_eq (iadd_one (by omega))) | (refine cons_eq ?_ ?_) | assumption)), rfl, rfl, rfl⟩
 · have hl := nlt_len (f := pcRow) hlt
   have hA : ∀ p ∈ l, LiP p := lt_idx fun i p h h1 => hI i p (by omega) h1
   repeat' ((first | refine bt ?_ | refine bf ?_ | refine vb_f (by (first | omega | (simp only [ilt_t, ilt_f, ile_t, ile_f, ieq_t, ieq_f, ofn, List.length_map, Bool.not_eq_true', Bool.not_eq_false'] at *; omega))) ?_ | refine vl ?_ | fail) <;> conv => whnf)
   exact ⟨true, rfl, rfl, fun _ => ⟨by omega, hA⟩⟩
theorem light6_nil : Pur F0 6 [.d .nilsl] [] .no (.ret (B true)) .no := pur_closed (n := 100) (by kernel_rfl)
theorem light6_ok (l : List Pc) (v : DV) (hv : SlV 11 (l.map pcRow) v) (hall : ∀ p ∈ l, PcOk p) : ∃ b : Bool, Pur F0 6 [.d v] [] .no (.ret (B b)) .no ∧ (b = true → LightP l) := by
 rcases hv with ⟨rfl, hn⟩ | rfl
 · obtain rfl : l = [] := List.map_eq_nil_iff.1 hn
   exact ⟨true, light6_nil, fun _ => ⟨by simp, fun p hp => by cases hp⟩⟩
 · exact light6_sl l hall
theorem light_sm {l : List Pc} (hall : ∀ p ∈ l, PcOk p) (h : LightP l) : Sm2 l := by
 refine ⟨⟨by have := h.1; omega, fun p hp => ?_⟩, fun p hp => ?_⟩
 · obtain ⟨⟨h1, h2⟩, h3, h4⟩ := h.2 p hp
   exact ⟨hall p hp, ⟨by omega, fun s hs => by have := h2 s hs; omega⟩, by omega⟩
 · obtain ⟨⟨h1, h2⟩, h3, h4⟩ := h.2 p hp
   have hpo := hall p hp
   cases hpo with
   | @mk kd vn names t c vi inner hn hi h0 =>
   simp only [Pc.inner] at h3 h4 ⊢
   refine ⟨by omega, fun q hq => ?_⟩
   obtain ⟨⟨h5, h6⟩, h7⟩ := h4 q hq
   exact ⟨h0 q hq, ⟨by omega, fun s hs => by have := h6 s hs; omega⟩, by rw [h7]; simp⟩
end Go.Proofs.YtlhajccbfapieaaGreatDoor.Ab
namespace Go.Proofs.YtlhajccbfapieaaGreatDoor.Ab
open Go
set_option maxRecDepth 100000
theorem lives06_ok : Pur F0 7 [] [] .no (.ret (B true)) .no := pur_closed (n := 100) (by kernel_rfl)
end Go.Proofs.YtlhajccbfapieaaGreatDoor.Ab
namespace Go.Proofs.YtlhajccbfapieaaGreatDoor.Ab
open Go
set_option linter.unusedSimpArgs false
set_option maxRecDepth 100000
set_option linter.unusedVariables false
set_option maxHeartbeats 4000000
theorem beqQ (x : Bool) : (x == x) = true := by cases x <;> rfl
theorem seqQ (s : List UInt8) : seq s s = true := by rw [seq_t]
theorem light_smD {l : List Pc} (hall : ∀ p ∈ l, PcOk p) (h : LightP l) : l.length ≤ 1000000 ∧ ∀ p ∈ l, SmD p := by
 refine ⟨by have := h.1; omega, fun p hp => ?_⟩
 obtain ⟨⟨g1, _⟩, g3, g4⟩ := h.2 p hp
 have hin : ∀ q ∈ p.inner, PcOk q := by
  have := hall p hp
  cases this with | mk hn hi h => exact h
 exact ⟨hall p hp, by omega, by omega, fun q hq => ⟨hin q hq, by have := (g4 q hq).1.1; omega, (g4 q hq).2⟩⟩
theorem trackTells_ok (t : Trk) (l : List Pc) (v : DV) (hv : SlV 11 (l.map pcRow) v) (hall : ∀ p ∈ l, PcOk p) (m : List Pc) (w : DV) (hw : SlV 11 (m.map pcRow) w) (hallm : ∀ p ∈ m, PcOk p) :
 Pur F0 3 [trkA t, .d v, .d w] [] .no (.ret (B true)) .no := by
 obtain ⟨c, hL, hP⟩ := light6_ok l v hv hall
 obtain ⟨c2, hM, hQ⟩ := light6_ok m w hw hallm
 have hx : (!true) = false := rfl
 have hy : (!false) = true := rfl
 have h1 := fixed_ok t
 have h2 := rfixed_ok t
 have h3 := right_ok t
 have h4 := rright_ok t
 have h5 := tsizeText_ok t
 have h6 := rsizeText_ok t
 cases c with
 | false =>
  obtain ⟨a1, a2, a3, a4, a5, a6, a7⟩ := t
  refine pur_code code3_ok ?_
  conv => whnf
  repeat' ((first | refine bt ?_ | refine bf ?_ | refine vpur_i hL ?_ | refine vpur_i lives06_ok ?_ | refine vl ?_ | fail) <;> conv => whnf)
  exact ⟨rfl, rfl⟩
 | true =>
  cases c2 with
  | false =>
   obtain ⟨a1, a2, a3, a4, a5, a6, a7⟩ := t
   refine pur_code code3_ok ?_
   conv => whnf
   repeat' ((first | refine bt ?_ | refine bf ?_ | refine vpur_i hL ?_ | refine vpur_i hM ?_ | refine vpur_i lives06_ok ?_ | refine vl ?_ | fail) <;> conv => whnf)
   exact ⟨rfl, rfl⟩
  | true =>
   have hs := light_sm hall (hP rfl)
   obtain ⟨g1, g2⟩ := light_smD hall (hP rfl)
   obtain ⟨_, g4⟩ := light_smD hallm (hQ rfl)
   have h7 := tgood_ok l v hv hs
   have h8 := rtgood_ok l v hv hs
   have h9 := ttext_ok l v hv hs hall
   have h10 := rtext6_ok l v hv hs hall
   have h11 := tsame_ok l m v w hv hw g1 g2 g4
   have h12 := rsame_ok l m v w hv hw g1 g2 g4
   have h13 := tsame_ok l l v v hv hv g1 g2 g2
   rw [pb_t (smG_refl r2_refl l)] at h13
   clear hP hQ hs g1 g2 g4 hall hallm hv hw
   obtain ⟨a1, a2, a3, a4, a5, a6, a7⟩ := t
   generalize szT ⟨a1, a2, a3, a4, a5, a6, a7⟩ = X1 at *
   generalize txT l = X2 at *
   generalize pb (SmG R2 l m) = X3 at *
   generalize pb (GoodP l) = X4 at *
   generalize fixedT ⟨a1, a2, a3, a4, a5, a6, a7⟩ = X5 at *
   generalize rightT ⟨a1, a2, a3, a4, a5, a6, a7⟩ = X6 at *
   refine pur_code code3_ok ?_
   conv => whnf
   repeat' ((first | refine bt ?_ | refine bf ?_ | refine vpur_i hL ?_ | refine vpur_i hM ?_ | refine vpur_i h1 ?_ | refine vpur_i h2 ?_ | refine vpur_i h3 ?_ | refine vpur_i h4 ?_ | refine vpur_i h5 ?_ | refine vpur_i h6 ?_ | refine vpur_i h7 ?_ | refine vpur_i h8 ?_ | refine vpur_i h9 ?_ | refine vpur_i h10 ?_ | refine vpur_i h13 ?_ | refine vpur_i h11 ?_ | refine vpur_i h12 ?_ | refine vb_t (beqQ _) ?_ | refine vb_t (seqQ _) ?_ | refine vpur_i lives06_ok ?_ | refine vl ?_ | fail) <;> conv => whnf)
   exact ⟨rfl, rfl⟩
end Go.Proofs.YtlhajccbfapieaaGreatDoor.Ab
